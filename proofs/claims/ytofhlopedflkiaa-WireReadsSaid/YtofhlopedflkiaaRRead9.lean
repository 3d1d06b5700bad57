/-
  The walks of the document's reader: New, Fail, Take, Get, End; Read, Num; bit. The walk of the document's reader: Take, Get. The walks of the document's readers: Get, Read, Num, bit.
-/
import Derived.Test.YtofhlopedflkiaaRBytes9
import Derived.Test.YtofhlopedflkiaaRead9c
set_option linter.unusedSimpArgs false
namespace Go.Proofs.Ytofhlopedflkiaa
open Go.RowKit Go.Shr
/-- The document's reader: all its bytes, how far it is, the error. -/
structure RdF (R : Nat) (w : World) (ba : Option Addr) (bcap : Nat) (full : List UInt8) (p e : Nat) : Prop where
  rw : Rw w R #[.slice ba full.length bcap, .int .i64 (p : Int), .int .i64 (e : Int)] 78
  sl : Sl (fun b => b < R) w 1 ba full.length bcap (u8s full)
  le : p ≤ full.length
  small : full.length ≤ 10000000000000
def RdR (R : Nat) (w : World) (bs : List UInt8) (e : Nat) : Prop := ∃ ba bcap full p, RdF R w ba bcap full p e ∧ bs = full.drop p
theorem RdR.lt {R : Nat} {w : World} {bs : List UInt8} {e : Nat} (h : RdR R w bs e) : R < w.heap.size := by
  obtain ⟨_, _, _, _, h1, _⟩ := h; exact h1.rw.lt
theorem RdR.small {R : Nat} {w : World} {bs : List UInt8} {e : Nat} (h : RdR R w bs e) : bs.length ≤ 10000000000000 := by
  obtain ⟨_, _, _, _, h1, rfl⟩ := h
  have := h1.small
  simp only [List.length_drop]; omega
theorem RdR.low {R : Nat} {w w' : World} {bs : List UInt8} {e : Nat} (h : RdR R w bs e) (hb : Below (R + 1) w w') : RdR R w' bs e := by
  obtain ⟨ba, bcap, full, p, h1, h2⟩ := h
  exact ⟨ba, bcap, full, p, ⟨(hb.block R (by omega)).trans h1.rw, h1.sl.chg (Chg.ofBelow hb) (fun k hk => by omega), h1.le, h1.small⟩, h2⟩
theorem RdR.below {R : Nat} {w w' : World} {bs : List UInt8} {e : Nat} (h : RdR R w bs e) (hb : Below w.heap.size w w') : RdR R w' bs e := h.low (hb.mono (by have := h.lt; omega))
theorem RdF.set {R : Nat} {w w' : World} {ba : Option Addr} {bcap : Nat} {full : List UInt8} {p e p' e' : Nat} (h : RdF R w ba bcap full p e) (hc : Chg (fun k => k = R) w w')
    (hr : Rw w' R #[.slice ba full.length bcap, .int .i64 (p' : Int), .int .i64 (e' : Int)] 78) (hl : p' ≤ full.length) : RdF R w' ba bcap full p' e' :=
  ⟨hr, h.sl.chg hc (fun k hk => by omega), hl, h.small⟩
set_option maxHeartbeats 400000 in
theorem rfail_v (R : Nat) (bs : List UInt8) (e x : Nat) (w : World) (h : RdR R w bs e) :
    Calls Try.prog 52 #[.pointer (some ⟨R, 0, none⟩), .int .i64 (x : Int)] w fun en w' => (∃ v, en = .returned v) ∧ RdR R w' bs (if e = 0 then x else e) ∧ Chg (fun k => k = R) w w' := by
  obtain ⟨ba, bcap, full, p, h1, h2⟩ := h
  have q2 : w.cell? ⟨R, 2, none⟩ = some (.int .i64 (e : Int)) := h1.rw.cell 2
  have qf := h1.rw.frozen
  have ql := h1.rw.lt
  have H1 := Lib.hid h1; have H2 := Lib.hid h2
  clear h1 h2
  by_cases he : e = 0
  · subst he
    go_enter Try.func52, Try.ntmps52
    go_wp2_with fail
    refine bodyPost_end (v := .tuple #[]) (by simp [results, Try.results52, go_sem]) rfl ?_
    have hc : Chg (fun k => k = R) w (w.setCell ⟨R, 2, none⟩ (.int .i64 (x : Int))) := (Chg.refl (fun k => k = R) w).setCell (p := ⟨R, 2, none⟩) (.inr rfl) _
    exact ⟨⟨_, rfl⟩, ⟨ba, bcap, full, p, H1.out.set hc (H1.out.rw.set 2 _) H1.out.le, H2.out⟩, hc⟩
  · have heb : ((e : Int) == 0) = false := beq_eq_false_iff_ne.2 (by omega)
    have HE := Lib.hid he
    clear he
    go_enter Try.func52, Try.ntmps52
    go_wp2_with fail
    refine bodyPost_end (v := .tuple #[]) (by simp [results, Try.results52, go_sem]) rfl ?_
    try rw [if_neg HE.out]
    exact ⟨⟨_, rfl⟩, ⟨ba, bcap, full, p, H1.out, H2.out⟩, Chg.refl _ _⟩
set_option maxHeartbeats 400000 in
theorem rnew_v (a : Option Addr) (cap : Nat) (bs : List UInt8) (w : World) (hn : bs.length ≤ 10000000000000) (h : Sl (fun b => b < w.heap.size) w 1 a bs.length cap (u8s bs)) :
    Calls Try.prog 35 #[.slice a bs.length cap] w fun en w' => ∃ R, en = .returned (.pointer (some ⟨R, 0, none⟩)) ∧ RdR R w' bs 0 ∧ w.heap.size ≤ R ∧ Below w.heap.size w w' := by
  obtain ⟨i0, hi, hz0, hz1, hz2⟩ := info_parts info_u8
  have hs := (h.alloc (.cells #[] 5)).src (P := Try.prog) (tx := 30) Try.underlying30 (u8s_one _)
  have HS := Lib.hid hs
  clear hs h
  go_enter Try.func35, Try.ntmps35
  go_wp2_with (at_builtin; refine wpList_append (B := w.heap.size) rfl _ _ _ _ rfl i0 (.int .u8 0) 1 Try.underlying30 hi hz0 hz1 hz2 rfl rfl (Own.bare _ _ _ _ _) _ rfl _ _ HS.out (by simp only [maxLen]; omega) (by omega) (by simp) ?_; intro a1 cap1 w1 hown1 hchg1 hnew1)
  have hb1 : Below w.heap.size w w1 := ((Below.refl _ _).alloc (Nat.le_refl _) _).trans (hchg1.below (by simp) (fun i hi ⟨_, h2⟩ => by omega))
  have HO1 : Hid (Own w.heap.size w1 5 1 a1 bs.length cap1 (u8s bs)) := Lib.hid (by simpa using hown1)
  have HB1 := Lib.hid hb1
  clear hown1 hchg1 hnew1 hb1
  go_ret
  refine ⟨w1.heap.size, by simp, ⟨a1, cap1, bs, 0, ⟨?_, ?_, Nat.zero_le _, hn⟩, by simp⟩, HB1.out.size, ba HB1.out _⟩
  · have := Rw.new w1 #[.slice a1 bs.length cap1, .int .i64 0, .int .i64 0] 78
    simpa using this
  · exact (HO1.out.sl.alloc _).mono (fun k hk h => by omega) (by decide)
set_option maxHeartbeats 1000000 in
theorem rend_v (R : Nat) (bs : List UInt8) (e : Nat) (w : World) (h : RdR R w bs e) :
    Calls Try.prog 38 #[.pointer (some ⟨R, 0, none⟩)] w fun en w' => ∃ e' : Nat, en = .returned (.int .i64 (e' : Int)) ∧ Hid ((e ≠ 0 → e' = e) ∧ (e = 0 → 0 < bs.length → e' = 9) ∧ (e = 0 → ¬ 0 < bs.length → e' = 0)) ∧ Below w.heap.size w w' := by
  obtain ⟨ba, bcap, full, p, h1, rfl⟩ := h
  have q0 : w.cell? ⟨R, 0, none⟩ = some (.slice ba full.length bcap) := h1.rw.cell 0
  have q1 : w.cell? ⟨R, 1, none⟩ = some (.int .i64 (p : Int)) := h1.rw.cell 1
  have q2 : w.cell? ⟨R, 2, none⟩ = some (.int .i64 (e : Int)) := h1.rw.cell 2
  have hle := h1.le
  have HC := Lib.hid (And.intro q0 (And.intro q1 q2))
  clear h1 q0 q1 q2
  by_cases he : e = 0
  · subst he
    by_cases hp : p < full.length
    · have hp' : (p : Int) < (full.length : Int) := by omega
      go_enter Try.func38, Try.ntmps38
      go_wp2_with fail
      refine Go.Shr.wp_region_F (fun w' => w'.cell? ⟨R, 0, none⟩ = some (.slice ba full.length bcap) ∧ w'.cell? ⟨R, 1, none⟩ = some (.int .i64 (p : Int)) ∧ w'.cell? ⟨R, 2, none⟩ = some (.int .i64 0)) [16] (by kernel_rfl) ?g7rgS (fun hHeld => ?g7rgR)
      case g7rgS => (try dsimp only); (exact HC.out)
      try dsimp only at hHeld
      refine Go.Shr.wpAnyF_take 0 (oi := { dst := some 3, op := Go.Op.move (Go.Operand.tmp 0), type := 74, pos := "ref.go:67", after := #[], guard := none }) (v := ?g7rv1) rfl (by kernel_rfl) (fun _ _ _ h => h) (by assumption) (by rfl) ?g7ry1 ?g7rr1
      case g7ry1 => intro w hSw; obtain ⟨s1, s2, s3⟩ := hSw; go_simp; try with_reducible rfl
      try simp only [Act.put, List.setIfInBounds_toArray, List.set_cons_zero, List.set_cons_succ]
      refine Go.Shr.wpAnyF_take 1 (oi := { dst := some 4, op := Go.Op.nilCheck (Go.Operand.tmp 3), type := 0, pos := "ref.go:67", after := #[{ on := 0, ground := Go.Ground.data }], guard := none }) (v := ?g7rv2) rfl (by kernel_rfl) (fun _ _ _ h => h) (by assumption) (by rfl) ?g7ry2 ?g7rr2
      case g7ry2 => intro w hSw; obtain ⟨s1, s2, s3⟩ := hSw; go_simp; try with_reducible rfl
      try simp only [Act.put, List.setIfInBounds_toArray, List.set_cons_zero, List.set_cons_succ]
      refine Go.Shr.wpAnyF_take 2 (oi := { dst := some 5, op := Go.Op.fieldAddr 78 (Go.Operand.tmp 4) 2, type := 0, pos := "ref.go:67", after := #[{ on := 1, ground := Go.Ground.data }], guard := none }) (v := ?g7rv3) rfl (by kernel_rfl) (fun _ _ _ h => h) (by assumption) (by rfl) ?g7ry3 ?g7rr3
      case g7ry3 => intro w hSw; obtain ⟨s1, s2, s3⟩ := hSw; go_simp; try with_reducible rfl
      try simp only [Act.put, List.setIfInBounds_toArray, List.set_cons_zero, List.set_cons_succ]
      refine Go.Shr.wpAnyF_take 3 (oi := { dst := some 6, op := Go.Op.load 3 (Go.Operand.tmp 5), type := 3, pos := "ref.go:67", after := #[{ on := 2, ground := Go.Ground.data }], guard := none }) (v := ?g7rv4) rfl (by kernel_rfl) (fun _ _ _ h => h) (by assumption) (by rfl) ?g7ry4 ?g7rr4
      case g7ry4 => intro w hSw; obtain ⟨s1, s2, s3⟩ := hSw; go_simp; try with_reducible rfl
      try simp only [Act.put, List.setIfInBounds_toArray, List.set_cons_zero, List.set_cons_succ]
      refine Go.Shr.wpAnyF_take 4 (oi := { dst := some 7, op := Go.Op.binOp Go.BinOp.eql 3 (Go.Operand.tmp 6) (Go.Operand.const (Go.Value.int Go.IntKind.i64 0)) 3, type := 4, pos := "ref.go:67", after := #[{ on := 3, ground := Go.Ground.data }], guard := none }) (v := ?g7rv5) rfl (by kernel_rfl) (fun _ _ _ h => h) (by assumption) (by rfl) ?g7ry5 ?g7rr5
      case g7ry5 => intro w hSw; obtain ⟨s1, s2, s3⟩ := hSw; go_simp; try with_reducible rfl
      try simp only [Act.put, List.setIfInBounds_toArray, List.set_cons_zero, List.set_cons_succ]
      refine Go.Shr.wpAnyF_take 5 (oi := { dst := some 8, op := Go.Op.move (Go.Operand.tmp 7), type := 4, pos := "ref.go:67", after := #[{ on := 4, ground := Go.Ground.data }], guard := none }) (v := ?g7rv6) rfl (by kernel_rfl) (fun _ _ _ h => h) (by assumption) (by rfl) ?g7ry6 ?g7rr6
      case g7ry6 => intro w hSw; obtain ⟨s1, s2, s3⟩ := hSw; go_simp; try with_reducible rfl
      try simp only [Act.put, List.setIfInBounds_toArray, List.set_cons_zero, List.set_cons_succ]
      first
        | refine Go.Shr.wpAnyF_skip 6 (oi := { dst := some 9, op := Go.Op.move (Go.Operand.tmp 0), type := 74, pos := "ref.go:67", after := #[{ on := 5, ground := Go.Ground.guard }], guard := some (5, true) }) rfl (by kernel_rfl) (fun _ _ _ h => h) (by assumption) (by rfl) ?_
        | (refine Go.Shr.wpAnyF_take 6 (oi := { dst := some 9, op := Go.Op.move (Go.Operand.tmp 0), type := 74, pos := "ref.go:67", after := #[{ on := 5, ground := Go.Ground.guard }], guard := some (5, true) }) (v := ?g7rv7) rfl (by kernel_rfl) (fun _ _ _ h => h) (by assumption) (by rfl) ?g7ry7 ?g7rr7
           case g7ry7 => intro w hSw; obtain ⟨s1, s2, s3⟩ := hSw; go_simp; try with_reducible rfl)
      try simp only [Act.put, List.setIfInBounds_toArray, List.set_cons_zero, List.set_cons_succ]
      first
        | refine Go.Shr.wpAnyF_skip 7 (oi := { dst := some 10, op := Go.Op.nilCheck (Go.Operand.tmp 9), type := 0, pos := "ref.go:67", after := #[{ on := 6, ground := Go.Ground.data }, { on := 5, ground := Go.Ground.guard }], guard := some (5, true) }) rfl (by kernel_rfl) (fun _ _ _ h => h) (by assumption) (by rfl) ?_
        | (refine Go.Shr.wpAnyF_take 7 (oi := { dst := some 10, op := Go.Op.nilCheck (Go.Operand.tmp 9), type := 0, pos := "ref.go:67", after := #[{ on := 6, ground := Go.Ground.data }, { on := 5, ground := Go.Ground.guard }], guard := some (5, true) }) (v := ?g7rv8) rfl (by kernel_rfl) (fun _ _ _ h => h) (by assumption) (by rfl) ?g7ry8 ?g7rr8
           case g7ry8 => intro w hSw; obtain ⟨s1, s2, s3⟩ := hSw; go_simp; try with_reducible rfl)
      try simp only [Act.put, List.setIfInBounds_toArray, List.set_cons_zero, List.set_cons_succ]
      first
        | refine Go.Shr.wpAnyF_skip 8 (oi := { dst := some 11, op := Go.Op.fieldAddr 78 (Go.Operand.tmp 10) 1, type := 0, pos := "ref.go:67", after := #[{ on := 7, ground := Go.Ground.data }, { on := 5, ground := Go.Ground.guard }], guard := some (5, true) }) rfl (by kernel_rfl) (fun _ _ _ h => h) (by assumption) (by rfl) ?_
        | (refine Go.Shr.wpAnyF_take 8 (oi := { dst := some 11, op := Go.Op.fieldAddr 78 (Go.Operand.tmp 10) 1, type := 0, pos := "ref.go:67", after := #[{ on := 7, ground := Go.Ground.data }, { on := 5, ground := Go.Ground.guard }], guard := some (5, true) }) (v := ?g7rv9) rfl (by kernel_rfl) (fun _ _ _ h => h) (by assumption) (by rfl) ?g7ry9 ?g7rr9
           case g7ry9 => intro w hSw; obtain ⟨s1, s2, s3⟩ := hSw; go_simp; try with_reducible rfl)
      try simp only [Act.put, List.setIfInBounds_toArray, List.set_cons_zero, List.set_cons_succ]
      first
        | refine Go.Shr.wpAnyF_skip 9 (oi := { dst := some 12, op := Go.Op.load 3 (Go.Operand.tmp 11), type := 3, pos := "ref.go:67", after := #[{ on := 8, ground := Go.Ground.data }, { on := 5, ground := Go.Ground.guard }], guard := some (5, true) }) rfl (by kernel_rfl) (fun _ _ _ h => h) (by assumption) (by rfl) ?_
        | (refine Go.Shr.wpAnyF_take 9 (oi := { dst := some 12, op := Go.Op.load 3 (Go.Operand.tmp 11), type := 3, pos := "ref.go:67", after := #[{ on := 8, ground := Go.Ground.data }, { on := 5, ground := Go.Ground.guard }], guard := some (5, true) }) (v := ?g7rv10) rfl (by kernel_rfl) (fun _ _ _ h => h) (by assumption) (by rfl) ?g7ry10 ?g7rr10
           case g7ry10 => intro w hSw; obtain ⟨s1, s2, s3⟩ := hSw; go_simp; try with_reducible rfl)
      try simp only [Act.put, List.setIfInBounds_toArray, List.set_cons_zero, List.set_cons_succ]
      first
        | refine Go.Shr.wpAnyF_skip 10 (oi := { dst := some 13, op := Go.Op.move (Go.Operand.tmp 0), type := 74, pos := "ref.go:67", after := #[{ on := 5, ground := Go.Ground.guard }], guard := some (5, true) }) rfl (by kernel_rfl) (fun _ _ _ h => h) (by assumption) (by rfl) ?_
        | (refine Go.Shr.wpAnyF_take 10 (oi := { dst := some 13, op := Go.Op.move (Go.Operand.tmp 0), type := 74, pos := "ref.go:67", after := #[{ on := 5, ground := Go.Ground.guard }], guard := some (5, true) }) (v := ?g7rv11) rfl (by kernel_rfl) (fun _ _ _ h => h) (by assumption) (by rfl) ?g7ry11 ?g7rr11
           case g7ry11 => intro w hSw; obtain ⟨s1, s2, s3⟩ := hSw; go_simp; try with_reducible rfl)
      try simp only [Act.put, List.setIfInBounds_toArray, List.set_cons_zero, List.set_cons_succ]
      first
        | refine Go.Shr.wpAnyF_skip 11 (oi := { dst := some 14, op := Go.Op.nilCheck (Go.Operand.tmp 13), type := 0, pos := "ref.go:67", after := #[{ on := 10, ground := Go.Ground.data }, { on := 5, ground := Go.Ground.guard }], guard := some (5, true) }) rfl (by kernel_rfl) (fun _ _ _ h => h) (by assumption) (by rfl) ?_
        | (refine Go.Shr.wpAnyF_take 11 (oi := { dst := some 14, op := Go.Op.nilCheck (Go.Operand.tmp 13), type := 0, pos := "ref.go:67", after := #[{ on := 10, ground := Go.Ground.data }, { on := 5, ground := Go.Ground.guard }], guard := some (5, true) }) (v := ?g7rv12) rfl (by kernel_rfl) (fun _ _ _ h => h) (by assumption) (by rfl) ?g7ry12 ?g7rr12
           case g7ry12 => intro w hSw; obtain ⟨s1, s2, s3⟩ := hSw; go_simp; try with_reducible rfl)
      try simp only [Act.put, List.setIfInBounds_toArray, List.set_cons_zero, List.set_cons_succ]
      first
        | refine Go.Shr.wpAnyF_skip 12 (oi := { dst := some 15, op := Go.Op.fieldAddr 78 (Go.Operand.tmp 14) 0, type := 0, pos := "ref.go:67", after := #[{ on := 11, ground := Go.Ground.data }, { on := 5, ground := Go.Ground.guard }], guard := some (5, true) }) rfl (by kernel_rfl) (fun _ _ _ h => h) (by assumption) (by rfl) ?_
        | (refine Go.Shr.wpAnyF_take 12 (oi := { dst := some 15, op := Go.Op.fieldAddr 78 (Go.Operand.tmp 14) 0, type := 0, pos := "ref.go:67", after := #[{ on := 11, ground := Go.Ground.data }, { on := 5, ground := Go.Ground.guard }], guard := some (5, true) }) (v := ?g7rv13) rfl (by kernel_rfl) (fun _ _ _ h => h) (by assumption) (by rfl) ?g7ry13 ?g7rr13
           case g7ry13 => intro w hSw; obtain ⟨s1, s2, s3⟩ := hSw; go_simp; try with_reducible rfl)
      try simp only [Act.put, List.setIfInBounds_toArray, List.set_cons_zero, List.set_cons_succ]
      first
        | refine Go.Shr.wpAnyF_skip 13 (oi := { dst := some 16, op := Go.Op.load 30 (Go.Operand.tmp 15), type := 30, pos := "ref.go:67", after := #[{ on := 12, ground := Go.Ground.data }, { on := 5, ground := Go.Ground.guard }], guard := some (5, true) }) rfl (by kernel_rfl) (fun _ _ _ h => h) (by assumption) (by rfl) ?_
        | (refine Go.Shr.wpAnyF_take 13 (oi := { dst := some 16, op := Go.Op.load 30 (Go.Operand.tmp 15), type := 30, pos := "ref.go:67", after := #[{ on := 12, ground := Go.Ground.data }, { on := 5, ground := Go.Ground.guard }], guard := some (5, true) }) (v := ?g7rv14) rfl (by kernel_rfl) (fun _ _ _ h => h) (by assumption) (by rfl) ?g7ry14 ?g7rr14
           case g7ry14 => intro w hSw; obtain ⟨s1, s2, s3⟩ := hSw; go_simp; try with_reducible rfl)
      try simp only [Act.put, List.setIfInBounds_toArray, List.set_cons_zero, List.set_cons_succ]
      first
        | refine Go.Shr.wpAnyF_skip 14 (oi := { dst := some 17, op := Go.Op.call { callee := Go.Callee.builtin Go.Builtin.len, args := #[Go.Operand.tmp 16], argTypes := #[30] }, type := 3, pos := "ref.go:67", after := #[{ on := 13, ground := Go.Ground.data }, { on := 5, ground := Go.Ground.guard }], guard := some (5, true) }) rfl (by kernel_rfl) (fun _ _ _ h => h) (by assumption) (by rfl) ?_
        | (refine Go.Shr.wpAnyF_take 14 (oi := { dst := some 17, op := Go.Op.call { callee := Go.Callee.builtin Go.Builtin.len, args := #[Go.Operand.tmp 16], argTypes := #[30] }, type := 3, pos := "ref.go:67", after := #[{ on := 13, ground := Go.Ground.data }, { on := 5, ground := Go.Ground.guard }], guard := some (5, true) }) (v := ?g7rv15) rfl (by kernel_rfl) (fun _ _ _ h => h) (by assumption) (by rfl) ?g7ry15 ?g7rr15
           case g7ry15 => intro w hSw; obtain ⟨s1, s2, s3⟩ := hSw; go_simp; try with_reducible rfl)
      try simp only [Act.put, List.setIfInBounds_toArray, List.set_cons_zero, List.set_cons_succ]
      first
        | refine Go.Shr.wpAnyF_skip 15 (oi := { dst := some 18, op := Go.Op.binOp Go.BinOp.lss 3 (Go.Operand.tmp 12) (Go.Operand.tmp 17) 3, type := 4, pos := "ref.go:67", after := #[{ on := 9, ground := Go.Ground.data }, { on := 14, ground := Go.Ground.data }, { on := 5, ground := Go.Ground.guard }], guard := some (5, true) }) rfl (by kernel_rfl) (fun _ _ _ h => h) (by assumption) (by rfl) ?_
        | (refine Go.Shr.wpAnyF_take 15 (oi := { dst := some 18, op := Go.Op.binOp Go.BinOp.lss 3 (Go.Operand.tmp 12) (Go.Operand.tmp 17) 3, type := 4, pos := "ref.go:67", after := #[{ on := 9, ground := Go.Ground.data }, { on := 14, ground := Go.Ground.data }, { on := 5, ground := Go.Ground.guard }], guard := some (5, true) }) (v := ?g7rv16) rfl (by kernel_rfl) (fun _ _ _ h => h) (by assumption) (by rfl) ?g7ry16 ?g7rr16
           case g7ry16 => intro w hSw; obtain ⟨s1, s2, s3⟩ := hSw; go_simp; try with_reducible rfl)
      try simp only [Act.put, List.setIfInBounds_toArray, List.set_cons_zero, List.set_cons_succ]
      refine Go.Shr.wpAnyF_ready [16] (by kernel_rfl) (by simp) ?_
      refine Go.Shr.AllReadyF.last 16 (o := { dst := some 19, op := Go.Op.pick (Go.Operand.tmp 8) (Go.Operand.tmp 18) (Go.Operand.const (Go.Value.bool false)), type := 4, pos := "ref.go:67", after := #[{ on := 5, ground := Go.Ground.data }, { on := 15, ground := Go.Ground.data }], guard := none }) rfl (by kernel_rfl) (fun K hK => ?g7ro17) ?g7rm17
      case g7rm17 => exact Go.Shr.AllReadyF.nil
      go_simp
      refine hK.out _ _ ?_
      clear hK K
      try simp only [Act.put, List.setIfInBounds_toArray, List.set_cons_zero, List.set_cons_succ]
      refine Go.Shr.wpAnyF_done (by kernel_rfl) ?_
      go_wp2_with fail
      go_ret
      exact ⟨9, rfl, Lib.hid ⟨fun h1 => by omega, fun h1 h2 => by simp only [List.length_drop] at h2; omega, fun h1 h2 => by simp only [List.length_drop] at h2; omega⟩, (b0 w).drew⟩
    · have hp' : ¬ (p : Int) < (full.length : Int) := by omega
      go_enter Try.func38, Try.ntmps38
      go_wp2_with fail
      refine Go.Shr.wp_region_F (fun w' => w'.cell? ⟨R, 0, none⟩ = some (.slice ba full.length bcap) ∧ w'.cell? ⟨R, 1, none⟩ = some (.int .i64 (p : Int)) ∧ w'.cell? ⟨R, 2, none⟩ = some (.int .i64 0)) [16] (by kernel_rfl) ?g8rgS (fun hHeld => ?g8rgR)
      case g8rgS => (try dsimp only); (exact HC.out)
      try dsimp only at hHeld
      refine Go.Shr.wpAnyF_take 0 (oi := { dst := some 3, op := Go.Op.move (Go.Operand.tmp 0), type := 74, pos := "ref.go:67", after := #[], guard := none }) (v := ?g8rv1) rfl (by kernel_rfl) (fun _ _ _ h => h) (by assumption) (by rfl) ?g8ry1 ?g8rr1
      case g8ry1 => intro w hSw; obtain ⟨s1, s2, s3⟩ := hSw; go_simp; try with_reducible rfl
      try simp only [Act.put, List.setIfInBounds_toArray, List.set_cons_zero, List.set_cons_succ]
      refine Go.Shr.wpAnyF_take 1 (oi := { dst := some 4, op := Go.Op.nilCheck (Go.Operand.tmp 3), type := 0, pos := "ref.go:67", after := #[{ on := 0, ground := Go.Ground.data }], guard := none }) (v := ?g8rv2) rfl (by kernel_rfl) (fun _ _ _ h => h) (by assumption) (by rfl) ?g8ry2 ?g8rr2
      case g8ry2 => intro w hSw; obtain ⟨s1, s2, s3⟩ := hSw; go_simp; try with_reducible rfl
      try simp only [Act.put, List.setIfInBounds_toArray, List.set_cons_zero, List.set_cons_succ]
      refine Go.Shr.wpAnyF_take 2 (oi := { dst := some 5, op := Go.Op.fieldAddr 78 (Go.Operand.tmp 4) 2, type := 0, pos := "ref.go:67", after := #[{ on := 1, ground := Go.Ground.data }], guard := none }) (v := ?g8rv3) rfl (by kernel_rfl) (fun _ _ _ h => h) (by assumption) (by rfl) ?g8ry3 ?g8rr3
      case g8ry3 => intro w hSw; obtain ⟨s1, s2, s3⟩ := hSw; go_simp; try with_reducible rfl
      try simp only [Act.put, List.setIfInBounds_toArray, List.set_cons_zero, List.set_cons_succ]
      refine Go.Shr.wpAnyF_take 3 (oi := { dst := some 6, op := Go.Op.load 3 (Go.Operand.tmp 5), type := 3, pos := "ref.go:67", after := #[{ on := 2, ground := Go.Ground.data }], guard := none }) (v := ?g8rv4) rfl (by kernel_rfl) (fun _ _ _ h => h) (by assumption) (by rfl) ?g8ry4 ?g8rr4
      case g8ry4 => intro w hSw; obtain ⟨s1, s2, s3⟩ := hSw; go_simp; try with_reducible rfl
      try simp only [Act.put, List.setIfInBounds_toArray, List.set_cons_zero, List.set_cons_succ]
      refine Go.Shr.wpAnyF_take 4 (oi := { dst := some 7, op := Go.Op.binOp Go.BinOp.eql 3 (Go.Operand.tmp 6) (Go.Operand.const (Go.Value.int Go.IntKind.i64 0)) 3, type := 4, pos := "ref.go:67", after := #[{ on := 3, ground := Go.Ground.data }], guard := none }) (v := ?g8rv5) rfl (by kernel_rfl) (fun _ _ _ h => h) (by assumption) (by rfl) ?g8ry5 ?g8rr5
      case g8ry5 => intro w hSw; obtain ⟨s1, s2, s3⟩ := hSw; go_simp; try with_reducible rfl
      try simp only [Act.put, List.setIfInBounds_toArray, List.set_cons_zero, List.set_cons_succ]
      refine Go.Shr.wpAnyF_take 5 (oi := { dst := some 8, op := Go.Op.move (Go.Operand.tmp 7), type := 4, pos := "ref.go:67", after := #[{ on := 4, ground := Go.Ground.data }], guard := none }) (v := ?g8rv6) rfl (by kernel_rfl) (fun _ _ _ h => h) (by assumption) (by rfl) ?g8ry6 ?g8rr6
      case g8ry6 => intro w hSw; obtain ⟨s1, s2, s3⟩ := hSw; go_simp; try with_reducible rfl
      try simp only [Act.put, List.setIfInBounds_toArray, List.set_cons_zero, List.set_cons_succ]
      first
        | refine Go.Shr.wpAnyF_skip 6 (oi := { dst := some 9, op := Go.Op.move (Go.Operand.tmp 0), type := 74, pos := "ref.go:67", after := #[{ on := 5, ground := Go.Ground.guard }], guard := some (5, true) }) rfl (by kernel_rfl) (fun _ _ _ h => h) (by assumption) (by rfl) ?_
        | (refine Go.Shr.wpAnyF_take 6 (oi := { dst := some 9, op := Go.Op.move (Go.Operand.tmp 0), type := 74, pos := "ref.go:67", after := #[{ on := 5, ground := Go.Ground.guard }], guard := some (5, true) }) (v := ?g8rv7) rfl (by kernel_rfl) (fun _ _ _ h => h) (by assumption) (by rfl) ?g8ry7 ?g8rr7
           case g8ry7 => intro w hSw; obtain ⟨s1, s2, s3⟩ := hSw; go_simp; try with_reducible rfl)
      try simp only [Act.put, List.setIfInBounds_toArray, List.set_cons_zero, List.set_cons_succ]
      first
        | refine Go.Shr.wpAnyF_skip 7 (oi := { dst := some 10, op := Go.Op.nilCheck (Go.Operand.tmp 9), type := 0, pos := "ref.go:67", after := #[{ on := 6, ground := Go.Ground.data }, { on := 5, ground := Go.Ground.guard }], guard := some (5, true) }) rfl (by kernel_rfl) (fun _ _ _ h => h) (by assumption) (by rfl) ?_
        | (refine Go.Shr.wpAnyF_take 7 (oi := { dst := some 10, op := Go.Op.nilCheck (Go.Operand.tmp 9), type := 0, pos := "ref.go:67", after := #[{ on := 6, ground := Go.Ground.data }, { on := 5, ground := Go.Ground.guard }], guard := some (5, true) }) (v := ?g8rv8) rfl (by kernel_rfl) (fun _ _ _ h => h) (by assumption) (by rfl) ?g8ry8 ?g8rr8
           case g8ry8 => intro w hSw; obtain ⟨s1, s2, s3⟩ := hSw; go_simp; try with_reducible rfl)
      try simp only [Act.put, List.setIfInBounds_toArray, List.set_cons_zero, List.set_cons_succ]
      first
        | refine Go.Shr.wpAnyF_skip 8 (oi := { dst := some 11, op := Go.Op.fieldAddr 78 (Go.Operand.tmp 10) 1, type := 0, pos := "ref.go:67", after := #[{ on := 7, ground := Go.Ground.data }, { on := 5, ground := Go.Ground.guard }], guard := some (5, true) }) rfl (by kernel_rfl) (fun _ _ _ h => h) (by assumption) (by rfl) ?_
        | (refine Go.Shr.wpAnyF_take 8 (oi := { dst := some 11, op := Go.Op.fieldAddr 78 (Go.Operand.tmp 10) 1, type := 0, pos := "ref.go:67", after := #[{ on := 7, ground := Go.Ground.data }, { on := 5, ground := Go.Ground.guard }], guard := some (5, true) }) (v := ?g8rv9) rfl (by kernel_rfl) (fun _ _ _ h => h) (by assumption) (by rfl) ?g8ry9 ?g8rr9
           case g8ry9 => intro w hSw; obtain ⟨s1, s2, s3⟩ := hSw; go_simp; try with_reducible rfl)
      try simp only [Act.put, List.setIfInBounds_toArray, List.set_cons_zero, List.set_cons_succ]
      first
        | refine Go.Shr.wpAnyF_skip 9 (oi := { dst := some 12, op := Go.Op.load 3 (Go.Operand.tmp 11), type := 3, pos := "ref.go:67", after := #[{ on := 8, ground := Go.Ground.data }, { on := 5, ground := Go.Ground.guard }], guard := some (5, true) }) rfl (by kernel_rfl) (fun _ _ _ h => h) (by assumption) (by rfl) ?_
        | (refine Go.Shr.wpAnyF_take 9 (oi := { dst := some 12, op := Go.Op.load 3 (Go.Operand.tmp 11), type := 3, pos := "ref.go:67", after := #[{ on := 8, ground := Go.Ground.data }, { on := 5, ground := Go.Ground.guard }], guard := some (5, true) }) (v := ?g8rv10) rfl (by kernel_rfl) (fun _ _ _ h => h) (by assumption) (by rfl) ?g8ry10 ?g8rr10
           case g8ry10 => intro w hSw; obtain ⟨s1, s2, s3⟩ := hSw; go_simp; try with_reducible rfl)
      try simp only [Act.put, List.setIfInBounds_toArray, List.set_cons_zero, List.set_cons_succ]
      first
        | refine Go.Shr.wpAnyF_skip 10 (oi := { dst := some 13, op := Go.Op.move (Go.Operand.tmp 0), type := 74, pos := "ref.go:67", after := #[{ on := 5, ground := Go.Ground.guard }], guard := some (5, true) }) rfl (by kernel_rfl) (fun _ _ _ h => h) (by assumption) (by rfl) ?_
        | (refine Go.Shr.wpAnyF_take 10 (oi := { dst := some 13, op := Go.Op.move (Go.Operand.tmp 0), type := 74, pos := "ref.go:67", after := #[{ on := 5, ground := Go.Ground.guard }], guard := some (5, true) }) (v := ?g8rv11) rfl (by kernel_rfl) (fun _ _ _ h => h) (by assumption) (by rfl) ?g8ry11 ?g8rr11
           case g8ry11 => intro w hSw; obtain ⟨s1, s2, s3⟩ := hSw; go_simp; try with_reducible rfl)
      try simp only [Act.put, List.setIfInBounds_toArray, List.set_cons_zero, List.set_cons_succ]
      first
        | refine Go.Shr.wpAnyF_skip 11 (oi := { dst := some 14, op := Go.Op.nilCheck (Go.Operand.tmp 13), type := 0, pos := "ref.go:67", after := #[{ on := 10, ground := Go.Ground.data }, { on := 5, ground := Go.Ground.guard }], guard := some (5, true) }) rfl (by kernel_rfl) (fun _ _ _ h => h) (by assumption) (by rfl) ?_
        | (refine Go.Shr.wpAnyF_take 11 (oi := { dst := some 14, op := Go.Op.nilCheck (Go.Operand.tmp 13), type := 0, pos := "ref.go:67", after := #[{ on := 10, ground := Go.Ground.data }, { on := 5, ground := Go.Ground.guard }], guard := some (5, true) }) (v := ?g8rv12) rfl (by kernel_rfl) (fun _ _ _ h => h) (by assumption) (by rfl) ?g8ry12 ?g8rr12
           case g8ry12 => intro w hSw; obtain ⟨s1, s2, s3⟩ := hSw; go_simp; try with_reducible rfl)
      try simp only [Act.put, List.setIfInBounds_toArray, List.set_cons_zero, List.set_cons_succ]
      first
        | refine Go.Shr.wpAnyF_skip 12 (oi := { dst := some 15, op := Go.Op.fieldAddr 78 (Go.Operand.tmp 14) 0, type := 0, pos := "ref.go:67", after := #[{ on := 11, ground := Go.Ground.data }, { on := 5, ground := Go.Ground.guard }], guard := some (5, true) }) rfl (by kernel_rfl) (fun _ _ _ h => h) (by assumption) (by rfl) ?_
        | (refine Go.Shr.wpAnyF_take 12 (oi := { dst := some 15, op := Go.Op.fieldAddr 78 (Go.Operand.tmp 14) 0, type := 0, pos := "ref.go:67", after := #[{ on := 11, ground := Go.Ground.data }, { on := 5, ground := Go.Ground.guard }], guard := some (5, true) }) (v := ?g8rv13) rfl (by kernel_rfl) (fun _ _ _ h => h) (by assumption) (by rfl) ?g8ry13 ?g8rr13
           case g8ry13 => intro w hSw; obtain ⟨s1, s2, s3⟩ := hSw; go_simp; try with_reducible rfl)
      try simp only [Act.put, List.setIfInBounds_toArray, List.set_cons_zero, List.set_cons_succ]
      first
        | refine Go.Shr.wpAnyF_skip 13 (oi := { dst := some 16, op := Go.Op.load 30 (Go.Operand.tmp 15), type := 30, pos := "ref.go:67", after := #[{ on := 12, ground := Go.Ground.data }, { on := 5, ground := Go.Ground.guard }], guard := some (5, true) }) rfl (by kernel_rfl) (fun _ _ _ h => h) (by assumption) (by rfl) ?_
        | (refine Go.Shr.wpAnyF_take 13 (oi := { dst := some 16, op := Go.Op.load 30 (Go.Operand.tmp 15), type := 30, pos := "ref.go:67", after := #[{ on := 12, ground := Go.Ground.data }, { on := 5, ground := Go.Ground.guard }], guard := some (5, true) }) (v := ?g8rv14) rfl (by kernel_rfl) (fun _ _ _ h => h) (by assumption) (by rfl) ?g8ry14 ?g8rr14
           case g8ry14 => intro w hSw; obtain ⟨s1, s2, s3⟩ := hSw; go_simp; try with_reducible rfl)
      try simp only [Act.put, List.setIfInBounds_toArray, List.set_cons_zero, List.set_cons_succ]
      first
        | refine Go.Shr.wpAnyF_skip 14 (oi := { dst := some 17, op := Go.Op.call { callee := Go.Callee.builtin Go.Builtin.len, args := #[Go.Operand.tmp 16], argTypes := #[30] }, type := 3, pos := "ref.go:67", after := #[{ on := 13, ground := Go.Ground.data }, { on := 5, ground := Go.Ground.guard }], guard := some (5, true) }) rfl (by kernel_rfl) (fun _ _ _ h => h) (by assumption) (by rfl) ?_
        | (refine Go.Shr.wpAnyF_take 14 (oi := { dst := some 17, op := Go.Op.call { callee := Go.Callee.builtin Go.Builtin.len, args := #[Go.Operand.tmp 16], argTypes := #[30] }, type := 3, pos := "ref.go:67", after := #[{ on := 13, ground := Go.Ground.data }, { on := 5, ground := Go.Ground.guard }], guard := some (5, true) }) (v := ?g8rv15) rfl (by kernel_rfl) (fun _ _ _ h => h) (by assumption) (by rfl) ?g8ry15 ?g8rr15
           case g8ry15 => intro w hSw; obtain ⟨s1, s2, s3⟩ := hSw; go_simp; try with_reducible rfl)
      try simp only [Act.put, List.setIfInBounds_toArray, List.set_cons_zero, List.set_cons_succ]
      first
        | refine Go.Shr.wpAnyF_skip 15 (oi := { dst := some 18, op := Go.Op.binOp Go.BinOp.lss 3 (Go.Operand.tmp 12) (Go.Operand.tmp 17) 3, type := 4, pos := "ref.go:67", after := #[{ on := 9, ground := Go.Ground.data }, { on := 14, ground := Go.Ground.data }, { on := 5, ground := Go.Ground.guard }], guard := some (5, true) }) rfl (by kernel_rfl) (fun _ _ _ h => h) (by assumption) (by rfl) ?_
        | (refine Go.Shr.wpAnyF_take 15 (oi := { dst := some 18, op := Go.Op.binOp Go.BinOp.lss 3 (Go.Operand.tmp 12) (Go.Operand.tmp 17) 3, type := 4, pos := "ref.go:67", after := #[{ on := 9, ground := Go.Ground.data }, { on := 14, ground := Go.Ground.data }, { on := 5, ground := Go.Ground.guard }], guard := some (5, true) }) (v := ?g8rv16) rfl (by kernel_rfl) (fun _ _ _ h => h) (by assumption) (by rfl) ?g8ry16 ?g8rr16
           case g8ry16 => intro w hSw; obtain ⟨s1, s2, s3⟩ := hSw; go_simp; try with_reducible rfl)
      try simp only [Act.put, List.setIfInBounds_toArray, List.set_cons_zero, List.set_cons_succ]
      refine Go.Shr.wpAnyF_ready [16] (by kernel_rfl) (by simp) ?_
      refine Go.Shr.AllReadyF.last 16 (o := { dst := some 19, op := Go.Op.pick (Go.Operand.tmp 8) (Go.Operand.tmp 18) (Go.Operand.const (Go.Value.bool false)), type := 4, pos := "ref.go:67", after := #[{ on := 5, ground := Go.Ground.data }, { on := 15, ground := Go.Ground.data }], guard := none }) rfl (by kernel_rfl) (fun K hK => ?g8ro17) ?g8rm17
      case g8rm17 => exact Go.Shr.AllReadyF.nil
      go_simp
      refine hK.out _ _ ?_
      clear hK K
      try simp only [Act.put, List.setIfInBounds_toArray, List.set_cons_zero, List.set_cons_succ]
      refine Go.Shr.wpAnyF_done (by kernel_rfl) ?_
      have q2 := HC.out.2.2
      go_wp2_with fail
      go_ret
      exact ⟨0, rfl, Lib.hid ⟨fun h1 => by omega, fun h1 h2 => by simp only [List.length_drop] at h2; omega, fun h1 h2 => by simp only [List.length_drop] at h2; omega⟩, (b0 w).drew⟩
  · have heb : ((e : Int) == 0) = false := beq_eq_false_iff_ne.2 (by omega)
    go_enter Try.func38, Try.ntmps38
    go_wp2_with fail
    refine Go.Shr.wp_region_F (fun w' => w'.cell? ⟨R, 0, none⟩ = some (.slice ba full.length bcap) ∧ w'.cell? ⟨R, 1, none⟩ = some (.int .i64 (p : Int)) ∧ w'.cell? ⟨R, 2, none⟩ = some (.int .i64 (e : Int))) [16] (by kernel_rfl) ?g9rgS (fun hHeld => ?g9rgR)
    case g9rgS => (try dsimp only); (exact HC.out)
    try dsimp only at hHeld
    refine Go.Shr.wpAnyF_take 0 (oi := { dst := some 3, op := Go.Op.move (Go.Operand.tmp 0), type := 74, pos := "ref.go:67", after := #[], guard := none }) (v := ?g9rv1) rfl (by kernel_rfl) (fun _ _ _ h => h) (by assumption) (by rfl) ?g9ry1 ?g9rr1
    case g9ry1 => intro w hSw; obtain ⟨s1, s2, s3⟩ := hSw; go_simp; try with_reducible rfl
    try simp only [Act.put, List.setIfInBounds_toArray, List.set_cons_zero, List.set_cons_succ]
    refine Go.Shr.wpAnyF_take 1 (oi := { dst := some 4, op := Go.Op.nilCheck (Go.Operand.tmp 3), type := 0, pos := "ref.go:67", after := #[{ on := 0, ground := Go.Ground.data }], guard := none }) (v := ?g9rv2) rfl (by kernel_rfl) (fun _ _ _ h => h) (by assumption) (by rfl) ?g9ry2 ?g9rr2
    case g9ry2 => intro w hSw; obtain ⟨s1, s2, s3⟩ := hSw; go_simp; try with_reducible rfl
    try simp only [Act.put, List.setIfInBounds_toArray, List.set_cons_zero, List.set_cons_succ]
    refine Go.Shr.wpAnyF_take 2 (oi := { dst := some 5, op := Go.Op.fieldAddr 78 (Go.Operand.tmp 4) 2, type := 0, pos := "ref.go:67", after := #[{ on := 1, ground := Go.Ground.data }], guard := none }) (v := ?g9rv3) rfl (by kernel_rfl) (fun _ _ _ h => h) (by assumption) (by rfl) ?g9ry3 ?g9rr3
    case g9ry3 => intro w hSw; obtain ⟨s1, s2, s3⟩ := hSw; go_simp; try with_reducible rfl
    try simp only [Act.put, List.setIfInBounds_toArray, List.set_cons_zero, List.set_cons_succ]
    refine Go.Shr.wpAnyF_take 3 (oi := { dst := some 6, op := Go.Op.load 3 (Go.Operand.tmp 5), type := 3, pos := "ref.go:67", after := #[{ on := 2, ground := Go.Ground.data }], guard := none }) (v := ?g9rv4) rfl (by kernel_rfl) (fun _ _ _ h => h) (by assumption) (by rfl) ?g9ry4 ?g9rr4
    case g9ry4 => intro w hSw; obtain ⟨s1, s2, s3⟩ := hSw; go_simp; try with_reducible rfl
    try simp only [Act.put, List.setIfInBounds_toArray, List.set_cons_zero, List.set_cons_succ]
    refine Go.Shr.wpAnyF_take 4 (oi := { dst := some 7, op := Go.Op.binOp Go.BinOp.eql 3 (Go.Operand.tmp 6) (Go.Operand.const (Go.Value.int Go.IntKind.i64 0)) 3, type := 4, pos := "ref.go:67", after := #[{ on := 3, ground := Go.Ground.data }], guard := none }) (v := ?g9rv5) rfl (by kernel_rfl) (fun _ _ _ h => h) (by assumption) (by rfl) ?g9ry5 ?g9rr5
    case g9ry5 => intro w hSw; obtain ⟨s1, s2, s3⟩ := hSw; go_simp; try with_reducible rfl
    try simp only [Act.put, List.setIfInBounds_toArray, List.set_cons_zero, List.set_cons_succ]
    refine Go.Shr.wpAnyF_take 5 (oi := { dst := some 8, op := Go.Op.move (Go.Operand.tmp 7), type := 4, pos := "ref.go:67", after := #[{ on := 4, ground := Go.Ground.data }], guard := none }) (v := ?g9rv6) rfl (by kernel_rfl) (fun _ _ _ h => h) (by assumption) (by rfl) ?g9ry6 ?g9rr6
    case g9ry6 => intro w hSw; obtain ⟨s1, s2, s3⟩ := hSw; go_simp; try with_reducible rfl
    try simp only [Act.put, List.setIfInBounds_toArray, List.set_cons_zero, List.set_cons_succ]
    first
      | refine Go.Shr.wpAnyF_skip 6 (oi := { dst := some 9, op := Go.Op.move (Go.Operand.tmp 0), type := 74, pos := "ref.go:67", after := #[{ on := 5, ground := Go.Ground.guard }], guard := some (5, true) }) rfl (by kernel_rfl) (fun _ _ _ h => h) (by assumption) (by rfl) ?_
      | (refine Go.Shr.wpAnyF_take 6 (oi := { dst := some 9, op := Go.Op.move (Go.Operand.tmp 0), type := 74, pos := "ref.go:67", after := #[{ on := 5, ground := Go.Ground.guard }], guard := some (5, true) }) (v := ?g9rv7) rfl (by kernel_rfl) (fun _ _ _ h => h) (by assumption) (by rfl) ?g9ry7 ?g9rr7
         case g9ry7 => intro w hSw; obtain ⟨s1, s2, s3⟩ := hSw; go_simp; try with_reducible rfl)
    try simp only [Act.put, List.setIfInBounds_toArray, List.set_cons_zero, List.set_cons_succ]
    first
      | refine Go.Shr.wpAnyF_skip 7 (oi := { dst := some 10, op := Go.Op.nilCheck (Go.Operand.tmp 9), type := 0, pos := "ref.go:67", after := #[{ on := 6, ground := Go.Ground.data }, { on := 5, ground := Go.Ground.guard }], guard := some (5, true) }) rfl (by kernel_rfl) (fun _ _ _ h => h) (by assumption) (by rfl) ?_
      | (refine Go.Shr.wpAnyF_take 7 (oi := { dst := some 10, op := Go.Op.nilCheck (Go.Operand.tmp 9), type := 0, pos := "ref.go:67", after := #[{ on := 6, ground := Go.Ground.data }, { on := 5, ground := Go.Ground.guard }], guard := some (5, true) }) (v := ?g9rv8) rfl (by kernel_rfl) (fun _ _ _ h => h) (by assumption) (by rfl) ?g9ry8 ?g9rr8
         case g9ry8 => intro w hSw; obtain ⟨s1, s2, s3⟩ := hSw; go_simp; try with_reducible rfl)
    try simp only [Act.put, List.setIfInBounds_toArray, List.set_cons_zero, List.set_cons_succ]
    first
      | refine Go.Shr.wpAnyF_skip 8 (oi := { dst := some 11, op := Go.Op.fieldAddr 78 (Go.Operand.tmp 10) 1, type := 0, pos := "ref.go:67", after := #[{ on := 7, ground := Go.Ground.data }, { on := 5, ground := Go.Ground.guard }], guard := some (5, true) }) rfl (by kernel_rfl) (fun _ _ _ h => h) (by assumption) (by rfl) ?_
      | (refine Go.Shr.wpAnyF_take 8 (oi := { dst := some 11, op := Go.Op.fieldAddr 78 (Go.Operand.tmp 10) 1, type := 0, pos := "ref.go:67", after := #[{ on := 7, ground := Go.Ground.data }, { on := 5, ground := Go.Ground.guard }], guard := some (5, true) }) (v := ?g9rv9) rfl (by kernel_rfl) (fun _ _ _ h => h) (by assumption) (by rfl) ?g9ry9 ?g9rr9
         case g9ry9 => intro w hSw; obtain ⟨s1, s2, s3⟩ := hSw; go_simp; try with_reducible rfl)
    try simp only [Act.put, List.setIfInBounds_toArray, List.set_cons_zero, List.set_cons_succ]
    first
      | refine Go.Shr.wpAnyF_skip 9 (oi := { dst := some 12, op := Go.Op.load 3 (Go.Operand.tmp 11), type := 3, pos := "ref.go:67", after := #[{ on := 8, ground := Go.Ground.data }, { on := 5, ground := Go.Ground.guard }], guard := some (5, true) }) rfl (by kernel_rfl) (fun _ _ _ h => h) (by assumption) (by rfl) ?_
      | (refine Go.Shr.wpAnyF_take 9 (oi := { dst := some 12, op := Go.Op.load 3 (Go.Operand.tmp 11), type := 3, pos := "ref.go:67", after := #[{ on := 8, ground := Go.Ground.data }, { on := 5, ground := Go.Ground.guard }], guard := some (5, true) }) (v := ?g9rv10) rfl (by kernel_rfl) (fun _ _ _ h => h) (by assumption) (by rfl) ?g9ry10 ?g9rr10
         case g9ry10 => intro w hSw; obtain ⟨s1, s2, s3⟩ := hSw; go_simp; try with_reducible rfl)
    try simp only [Act.put, List.setIfInBounds_toArray, List.set_cons_zero, List.set_cons_succ]
    first
      | refine Go.Shr.wpAnyF_skip 10 (oi := { dst := some 13, op := Go.Op.move (Go.Operand.tmp 0), type := 74, pos := "ref.go:67", after := #[{ on := 5, ground := Go.Ground.guard }], guard := some (5, true) }) rfl (by kernel_rfl) (fun _ _ _ h => h) (by assumption) (by rfl) ?_
      | (refine Go.Shr.wpAnyF_take 10 (oi := { dst := some 13, op := Go.Op.move (Go.Operand.tmp 0), type := 74, pos := "ref.go:67", after := #[{ on := 5, ground := Go.Ground.guard }], guard := some (5, true) }) (v := ?g9rv11) rfl (by kernel_rfl) (fun _ _ _ h => h) (by assumption) (by rfl) ?g9ry11 ?g9rr11
         case g9ry11 => intro w hSw; obtain ⟨s1, s2, s3⟩ := hSw; go_simp; try with_reducible rfl)
    try simp only [Act.put, List.setIfInBounds_toArray, List.set_cons_zero, List.set_cons_succ]
    first
      | refine Go.Shr.wpAnyF_skip 11 (oi := { dst := some 14, op := Go.Op.nilCheck (Go.Operand.tmp 13), type := 0, pos := "ref.go:67", after := #[{ on := 10, ground := Go.Ground.data }, { on := 5, ground := Go.Ground.guard }], guard := some (5, true) }) rfl (by kernel_rfl) (fun _ _ _ h => h) (by assumption) (by rfl) ?_
      | (refine Go.Shr.wpAnyF_take 11 (oi := { dst := some 14, op := Go.Op.nilCheck (Go.Operand.tmp 13), type := 0, pos := "ref.go:67", after := #[{ on := 10, ground := Go.Ground.data }, { on := 5, ground := Go.Ground.guard }], guard := some (5, true) }) (v := ?g9rv12) rfl (by kernel_rfl) (fun _ _ _ h => h) (by assumption) (by rfl) ?g9ry12 ?g9rr12
         case g9ry12 => intro w hSw; obtain ⟨s1, s2, s3⟩ := hSw; go_simp; try with_reducible rfl)
    try simp only [Act.put, List.setIfInBounds_toArray, List.set_cons_zero, List.set_cons_succ]
    first
      | refine Go.Shr.wpAnyF_skip 12 (oi := { dst := some 15, op := Go.Op.fieldAddr 78 (Go.Operand.tmp 14) 0, type := 0, pos := "ref.go:67", after := #[{ on := 11, ground := Go.Ground.data }, { on := 5, ground := Go.Ground.guard }], guard := some (5, true) }) rfl (by kernel_rfl) (fun _ _ _ h => h) (by assumption) (by rfl) ?_
      | (refine Go.Shr.wpAnyF_take 12 (oi := { dst := some 15, op := Go.Op.fieldAddr 78 (Go.Operand.tmp 14) 0, type := 0, pos := "ref.go:67", after := #[{ on := 11, ground := Go.Ground.data }, { on := 5, ground := Go.Ground.guard }], guard := some (5, true) }) (v := ?g9rv13) rfl (by kernel_rfl) (fun _ _ _ h => h) (by assumption) (by rfl) ?g9ry13 ?g9rr13
         case g9ry13 => intro w hSw; obtain ⟨s1, s2, s3⟩ := hSw; go_simp; try with_reducible rfl)
    try simp only [Act.put, List.setIfInBounds_toArray, List.set_cons_zero, List.set_cons_succ]
    first
      | refine Go.Shr.wpAnyF_skip 13 (oi := { dst := some 16, op := Go.Op.load 30 (Go.Operand.tmp 15), type := 30, pos := "ref.go:67", after := #[{ on := 12, ground := Go.Ground.data }, { on := 5, ground := Go.Ground.guard }], guard := some (5, true) }) rfl (by kernel_rfl) (fun _ _ _ h => h) (by assumption) (by rfl) ?_
      | (refine Go.Shr.wpAnyF_take 13 (oi := { dst := some 16, op := Go.Op.load 30 (Go.Operand.tmp 15), type := 30, pos := "ref.go:67", after := #[{ on := 12, ground := Go.Ground.data }, { on := 5, ground := Go.Ground.guard }], guard := some (5, true) }) (v := ?g9rv14) rfl (by kernel_rfl) (fun _ _ _ h => h) (by assumption) (by rfl) ?g9ry14 ?g9rr14
         case g9ry14 => intro w hSw; obtain ⟨s1, s2, s3⟩ := hSw; go_simp; try with_reducible rfl)
    try simp only [Act.put, List.setIfInBounds_toArray, List.set_cons_zero, List.set_cons_succ]
    first
      | refine Go.Shr.wpAnyF_skip 14 (oi := { dst := some 17, op := Go.Op.call { callee := Go.Callee.builtin Go.Builtin.len, args := #[Go.Operand.tmp 16], argTypes := #[30] }, type := 3, pos := "ref.go:67", after := #[{ on := 13, ground := Go.Ground.data }, { on := 5, ground := Go.Ground.guard }], guard := some (5, true) }) rfl (by kernel_rfl) (fun _ _ _ h => h) (by assumption) (by rfl) ?_
      | (refine Go.Shr.wpAnyF_take 14 (oi := { dst := some 17, op := Go.Op.call { callee := Go.Callee.builtin Go.Builtin.len, args := #[Go.Operand.tmp 16], argTypes := #[30] }, type := 3, pos := "ref.go:67", after := #[{ on := 13, ground := Go.Ground.data }, { on := 5, ground := Go.Ground.guard }], guard := some (5, true) }) (v := ?g9rv15) rfl (by kernel_rfl) (fun _ _ _ h => h) (by assumption) (by rfl) ?g9ry15 ?g9rr15
         case g9ry15 => intro w hSw; obtain ⟨s1, s2, s3⟩ := hSw; go_simp; try with_reducible rfl)
    try simp only [Act.put, List.setIfInBounds_toArray, List.set_cons_zero, List.set_cons_succ]
    first
      | refine Go.Shr.wpAnyF_skip 15 (oi := { dst := some 18, op := Go.Op.binOp Go.BinOp.lss 3 (Go.Operand.tmp 12) (Go.Operand.tmp 17) 3, type := 4, pos := "ref.go:67", after := #[{ on := 9, ground := Go.Ground.data }, { on := 14, ground := Go.Ground.data }, { on := 5, ground := Go.Ground.guard }], guard := some (5, true) }) rfl (by kernel_rfl) (fun _ _ _ h => h) (by assumption) (by rfl) ?_
      | (refine Go.Shr.wpAnyF_take 15 (oi := { dst := some 18, op := Go.Op.binOp Go.BinOp.lss 3 (Go.Operand.tmp 12) (Go.Operand.tmp 17) 3, type := 4, pos := "ref.go:67", after := #[{ on := 9, ground := Go.Ground.data }, { on := 14, ground := Go.Ground.data }, { on := 5, ground := Go.Ground.guard }], guard := some (5, true) }) (v := ?g9rv16) rfl (by kernel_rfl) (fun _ _ _ h => h) (by assumption) (by rfl) ?g9ry16 ?g9rr16
         case g9ry16 => intro w hSw; obtain ⟨s1, s2, s3⟩ := hSw; go_simp; try with_reducible rfl)
    try simp only [Act.put, List.setIfInBounds_toArray, List.set_cons_zero, List.set_cons_succ]
    refine Go.Shr.wpAnyF_ready [16] (by kernel_rfl) (by simp) ?_
    refine Go.Shr.AllReadyF.last 16 (o := { dst := some 19, op := Go.Op.pick (Go.Operand.tmp 8) (Go.Operand.tmp 18) (Go.Operand.const (Go.Value.bool false)), type := 4, pos := "ref.go:67", after := #[{ on := 5, ground := Go.Ground.data }, { on := 15, ground := Go.Ground.data }], guard := none }) rfl (by kernel_rfl) (fun K hK => ?g9ro17) ?g9rm17
    case g9rm17 => exact Go.Shr.AllReadyF.nil
    go_simp
    refine hK.out _ _ ?_
    clear hK K
    try simp only [Act.put, List.setIfInBounds_toArray, List.set_cons_zero, List.set_cons_succ]
    refine Go.Shr.wpAnyF_done (by kernel_rfl) ?_
    have q2 := HC.out.2.2
    go_wp2_with fail
    go_ret
    exact ⟨e, rfl, Lib.hid ⟨fun h1 => by omega, fun h1 h2 => by simp only [List.length_drop] at h2; omega, fun h1 h2 => by simp only [List.length_drop] at h2; omega⟩, (b0 w).drew⟩
end Go.Proofs.Ytofhlopedflkiaa
namespace Go.Proofs.Ytofhlopedflkiaa
open Go.RowKit Go.Shr
set_option maxHeartbeats 2000000 in
set_option maxRecDepth 100000 in
theorem rtake_v (R : Nat) (bs : List UInt8) (e n : Nat) (w : World) (h : RdR R w bs e) (hn : n ≤ 10000000000000) :
    Calls Try.prog 55 #[.pointer (some ⟨R, 0, none⟩), .int .i64 (n : Int)] w fun en w' => ∃ a' cap', en = .returned (.slice a' (takeS n bs e).1.length cap') ∧ Sl (fun b => b < w'.heap.size) w' 1 a' (takeS n bs e).1.length cap' (u8s (takeS n bs e).1) ∧ RdR R w' (takeS n bs e).2.1 (takeS n bs e).2.2 ∧ Chg (fun k => k = R) w w' := by
  obtain ⟨i0, hi0, hz0, hz1, hz2⟩ := info_parts info_u8
  have HH := Lib.hid h
  obtain ⟨ba, bcap, full, p, h1, h2⟩ := h
  have q0 : w.cell? ⟨R, 0, none⟩ = some (.slice ba full.length bcap) := h1.rw.cell 0
  have q1 : w.cell? ⟨R, 1, none⟩ = some (.int .i64 (p : Int)) := h1.rw.cell 1
  have q2 : w.cell? ⟨R, 2, none⟩ = some (.int .i64 (e : Int)) := h1.rw.cell 2
  have hle := h1.le
  have hsm := h1.small
  have HC := Lib.hid (And.intro q0 q1)
  have H1 := Lib.hid h1
  have H2 := Lib.hid h2
  clear h1 h2 q0 q1
  by_cases he : e = 0
  · by_cases h0 : n = 0
    · subst h0
      have HT : Hid (takeS 0 bs e = ([], bs, e)) := Lib.hid (by subst he; simp [takeS])
      subst he
      go_enter Try.func55, Try.ntmps55
      go_wp2_with fail
      go_ret
      rw [HT.out]
      exact ⟨none, 0, rfl, Sl.nil _ _ _ _, HH.out, Chg.refl _ _⟩
    · have hn0 : ¬ (n : Int) ≤ 0 := by omega
      by_cases hlt : bs.length < n
      · have HT : Hid (takeS n bs e = ([], bs, 8)) := Lib.hid (by subst he; simp [takeS, hlt])
        have hlt' : (full.length : Int) - (p : Int) < (n : Int) := by rw [H2.out, List.length_drop] at hlt; omega
        subst he
        clear hlt h0
        go_enter Try.func55, Try.ntmps55
        go_wp2_with fail
        have hwr : IntKind.i64.wrap ((full.length : Int) - (p : Int)) = (full.length : Int) - (p : Int) := by rw [IntKind.wrap_i64]; omega
        refine Go.Shr.wp_region_F (fun w' => w'.cell? ⟨R, 0, none⟩ = some (.slice ba full.length bcap) ∧ w'.cell? ⟨R, 1, none⟩ = some (.int .i64 (p : Int))) [11] (by kernel_rfl) ?g10rgS (fun hHeld => ?g10rgR)
        case g10rgS => (try dsimp only); (exact HC.out)
        try dsimp only at hHeld
        refine Go.Shr.wpAnyF_take 0 (oi := { dst := some 14, op := Go.Op.move (Go.Operand.tmp 1), type := 3, pos := "ref.go:45", after := #[], guard := none }) (v := ?g10rv1) rfl (by kernel_rfl) (fun _ _ _ h => h) (by assumption) (by rfl) ?g10ry1 ?g10rr1
        case g10ry1 => intro w hSw; obtain ⟨s1, s2⟩ := hSw; go_simp; try with_reducible rfl
        try simp only [Act.put, List.setIfInBounds_toArray, List.set_cons_zero, List.set_cons_succ]
        refine Go.Shr.wpAnyF_take 1 (oi := { dst := some 15, op := Go.Op.move (Go.Operand.tmp 0), type := 74, pos := "ref.go:45", after := #[], guard := none }) (v := ?g10rv2) rfl (by kernel_rfl) (fun _ _ _ h => h) (by assumption) (by rfl) ?g10ry2 ?g10rr2
        case g10ry2 => intro w hSw; obtain ⟨s1, s2⟩ := hSw; go_simp; try with_reducible rfl
        try simp only [Act.put, List.setIfInBounds_toArray, List.set_cons_zero, List.set_cons_succ]
        refine Go.Shr.wpAnyF_take 2 (oi := { dst := some 16, op := Go.Op.nilCheck (Go.Operand.tmp 15), type := 0, pos := "ref.go:45", after := #[{ on := 1, ground := Go.Ground.data }], guard := none }) (v := ?g10rv3) rfl (by kernel_rfl) (fun _ _ _ h => h) (by assumption) (by rfl) ?g10ry3 ?g10rr3
        case g10ry3 => intro w hSw; obtain ⟨s1, s2⟩ := hSw; go_simp; try with_reducible rfl
        try simp only [Act.put, List.setIfInBounds_toArray, List.set_cons_zero, List.set_cons_succ]
        refine Go.Shr.wpAnyF_take 3 (oi := { dst := some 17, op := Go.Op.fieldAddr 78 (Go.Operand.tmp 16) 0, type := 0, pos := "ref.go:45", after := #[{ on := 2, ground := Go.Ground.data }], guard := none }) (v := ?g10rv4) rfl (by kernel_rfl) (fun _ _ _ h => h) (by assumption) (by rfl) ?g10ry4 ?g10rr4
        case g10ry4 => intro w hSw; obtain ⟨s1, s2⟩ := hSw; go_simp; try with_reducible rfl
        try simp only [Act.put, List.setIfInBounds_toArray, List.set_cons_zero, List.set_cons_succ]
        refine Go.Shr.wpAnyF_take 4 (oi := { dst := some 18, op := Go.Op.load 30 (Go.Operand.tmp 17), type := 30, pos := "ref.go:45", after := #[{ on := 3, ground := Go.Ground.data }], guard := none }) (v := ?g10rv5) rfl (by kernel_rfl) (fun _ _ _ h => h) (by assumption) (by rfl) ?g10ry5 ?g10rr5
        case g10ry5 => intro w hSw; obtain ⟨s1, s2⟩ := hSw; go_simp; try with_reducible rfl
        try simp only [Act.put, List.setIfInBounds_toArray, List.set_cons_zero, List.set_cons_succ]
        refine Go.Shr.wpAnyF_take 5 (oi := { dst := some 19, op := Go.Op.call { callee := Go.Callee.builtin Go.Builtin.len, args := #[Go.Operand.tmp 18], argTypes := #[30] }, type := 3, pos := "ref.go:45", after := #[{ on := 4, ground := Go.Ground.data }], guard := none }) (v := ?g10rv6) rfl (by kernel_rfl) (fun _ _ _ h => h) (by assumption) (by rfl) ?g10ry6 ?g10rr6
        case g10ry6 => intro w hSw; obtain ⟨s1, s2⟩ := hSw; go_simp; try with_reducible rfl
        try simp only [Act.put, List.setIfInBounds_toArray, List.set_cons_zero, List.set_cons_succ]
        refine Go.Shr.wpAnyF_take 6 (oi := { dst := some 20, op := Go.Op.move (Go.Operand.tmp 0), type := 74, pos := "ref.go:45", after := #[], guard := none }) (v := ?g10rv7) rfl (by kernel_rfl) (fun _ _ _ h => h) (by assumption) (by rfl) ?g10ry7 ?g10rr7
        case g10ry7 => intro w hSw; obtain ⟨s1, s2⟩ := hSw; go_simp; try with_reducible rfl
        try simp only [Act.put, List.setIfInBounds_toArray, List.set_cons_zero, List.set_cons_succ]
        refine Go.Shr.wpAnyF_take 7 (oi := { dst := some 21, op := Go.Op.nilCheck (Go.Operand.tmp 20), type := 0, pos := "ref.go:45", after := #[{ on := 6, ground := Go.Ground.data }], guard := none }) (v := ?g10rv8) rfl (by kernel_rfl) (fun _ _ _ h => h) (by assumption) (by rfl) ?g10ry8 ?g10rr8
        case g10ry8 => intro w hSw; obtain ⟨s1, s2⟩ := hSw; go_simp; try with_reducible rfl
        try simp only [Act.put, List.setIfInBounds_toArray, List.set_cons_zero, List.set_cons_succ]
        refine Go.Shr.wpAnyF_take 8 (oi := { dst := some 22, op := Go.Op.fieldAddr 78 (Go.Operand.tmp 21) 1, type := 0, pos := "ref.go:45", after := #[{ on := 7, ground := Go.Ground.data }], guard := none }) (v := ?g10rv9) rfl (by kernel_rfl) (fun _ _ _ h => h) (by assumption) (by rfl) ?g10ry9 ?g10rr9
        case g10ry9 => intro w hSw; obtain ⟨s1, s2⟩ := hSw; go_simp; try with_reducible rfl
        try simp only [Act.put, List.setIfInBounds_toArray, List.set_cons_zero, List.set_cons_succ]
        refine Go.Shr.wpAnyF_take 9 (oi := { dst := some 23, op := Go.Op.load 3 (Go.Operand.tmp 22), type := 3, pos := "ref.go:45", after := #[{ on := 8, ground := Go.Ground.data }], guard := none }) (v := ?g10rv10) rfl (by kernel_rfl) (fun _ _ _ h => h) (by assumption) (by rfl) ?g10ry10 ?g10rr10
        case g10ry10 => intro w hSw; obtain ⟨s1, s2⟩ := hSw; go_simp; try with_reducible rfl
        try simp only [Act.put, List.setIfInBounds_toArray, List.set_cons_zero, List.set_cons_succ]
        refine Go.Shr.wpAnyF_take 10 (oi := { dst := some 24, op := Go.Op.binOp Go.BinOp.sub 3 (Go.Operand.tmp 19) (Go.Operand.tmp 23) 3, type := 3, pos := "ref.go:45", after := #[{ on := 5, ground := Go.Ground.data }, { on := 9, ground := Go.Ground.data }], guard := none }) (v := ?g10rv11) rfl (by kernel_rfl) (fun _ _ _ h => h) (by assumption) (by rfl) ?g10ry11 ?g10rr11
        case g10ry11 => intro w hSw; obtain ⟨s1, s2⟩ := hSw; go_simp; try with_reducible rfl
        try simp only [Act.put, List.setIfInBounds_toArray, List.set_cons_zero, List.set_cons_succ]
        refine Go.Shr.wpAnyF_ready [11] (by kernel_rfl) (by simp) ?_
        refine Go.Shr.AllReadyF.last 11 (o := { dst := some 25, op := Go.Op.binOp Go.BinOp.gtr 3 (Go.Operand.tmp 14) (Go.Operand.tmp 24) 3, type := 4, pos := "ref.go:45", after := #[{ on := 0, ground := Go.Ground.data }, { on := 10, ground := Go.Ground.data }], guard := none }) rfl (by kernel_rfl) (fun K hK => ?g10ro12) ?g10rm12
        case g10rm12 => exact Go.Shr.AllReadyF.nil
        go_simp
        refine hK.out _ _ ?_
        clear hK K
        try simp only [Act.put, List.setIfInBounds_toArray, List.set_cons_zero, List.set_cons_succ]
        refine Go.Shr.wpAnyF_done (by kernel_rfl) ?_
        go_wp2_with fail
        clear hwr
        refine (rfail_v R bs 0 8 w.drew (HH.out.below (b0 w).drew)).mono ?_
        rintro en w1 ⟨⟨v, rfl⟩, hr1, hc1⟩
        rw [if_pos rfl] at hr1
        have HR1 := Lib.hid hr1; have HC1 := Lib.hid hc1
        clear hr1 hc1
        go_wp2_with fail
        go_ret
        rw [HT.out]
        exact ⟨none, 0, rfl, Sl.nil _ _ _ _, HR1.out, (Chg.refl (fun k => k = R) w).drew.trans HC1.out (fun _ _ h => h)⟩
      · have HT : Hid (takeS n bs e = (bs.take n, bs.drop n, 0)) := Lib.hid (by subst he; simp [takeS, hlt])
        have hlt' : ¬ (full.length : Int) - (p : Int) < (n : Int) := by rw [H2.out, List.length_drop] at hlt; omega
        obtain ⟨q, hq⟩ : ∃ q : Nat, q = p + n := ⟨_, rfl⟩
        have hqle : q ≤ full.length := by omega
        have hpq : p ≤ q := by omega
        have eA : (p : Int) + (n : Int) = (q : Int) := by omega
        have eB : (q : Int) - (n : Int) = (p : Int) := by omega
        have HEB := Lib.hid eB
        have hqp : q - p = n := by omega
        obtain ⟨a1, hr1, hs1⟩ := Sl.part (P := Try.prog) (t := 30) Try.underlying30 hi0 hz1 H1.out.sl .i64 .i64 (p : Int) (q : Int) (by omega) (by omega) (by omega)
        rw [Int.toNat_natCast, Int.toNat_natCast, hqp] at hr1 hs1
        rw [Nat.mul_one, Nat.mul_one] at hs1
        have hl : (bs.take n).length = n := by rw [List.length_take]; omega
        have hub : ((u8s full).drop p).take n = u8s (bs.take n) := by rw [H2.out]; simp [u8s]
        have HUB := Lib.hid hub
        rw [hub] at hs1
        have HS1 := Lib.hid hs1
        have HL := Lib.hid hl
        have HRN := Lib.hid hr1
        have HQ := Lib.hid hq
        have qf := H1.out.rw.frozen
        have ql := H1.out.rw.lt
        subst he
        clear hlt h0 eB hs1 hl hub hq hqp hr1
        have q1 := HC.out.2
        go_enter Try.func55, Try.ntmps55
        go_wp2_with fail
        have hwr : IntKind.i64.wrap ((full.length : Int) - (p : Int)) = (full.length : Int) - (p : Int) := by rw [IntKind.wrap_i64]; omega
        refine Go.Shr.wp_region_F (fun w' => w'.cell? ⟨R, 0, none⟩ = some (.slice ba full.length bcap) ∧ w'.cell? ⟨R, 1, none⟩ = some (.int .i64 (p : Int))) [11] (by kernel_rfl) ?g11rgS (fun hHeld => ?g11rgR)
        case g11rgS => (try dsimp only); (exact HC.out)
        try dsimp only at hHeld
        refine Go.Shr.wpAnyF_take 0 (oi := { dst := some 14, op := Go.Op.move (Go.Operand.tmp 1), type := 3, pos := "ref.go:45", after := #[], guard := none }) (v := ?g11rv1) rfl (by kernel_rfl) (fun _ _ _ h => h) (by assumption) (by rfl) ?g11ry1 ?g11rr1
        case g11ry1 => intro w hSw; obtain ⟨s1, s2⟩ := hSw; go_simp; try with_reducible rfl
        try simp only [Act.put, List.setIfInBounds_toArray, List.set_cons_zero, List.set_cons_succ]
        refine Go.Shr.wpAnyF_take 1 (oi := { dst := some 15, op := Go.Op.move (Go.Operand.tmp 0), type := 74, pos := "ref.go:45", after := #[], guard := none }) (v := ?g11rv2) rfl (by kernel_rfl) (fun _ _ _ h => h) (by assumption) (by rfl) ?g11ry2 ?g11rr2
        case g11ry2 => intro w hSw; obtain ⟨s1, s2⟩ := hSw; go_simp; try with_reducible rfl
        try simp only [Act.put, List.setIfInBounds_toArray, List.set_cons_zero, List.set_cons_succ]
        refine Go.Shr.wpAnyF_take 2 (oi := { dst := some 16, op := Go.Op.nilCheck (Go.Operand.tmp 15), type := 0, pos := "ref.go:45", after := #[{ on := 1, ground := Go.Ground.data }], guard := none }) (v := ?g11rv3) rfl (by kernel_rfl) (fun _ _ _ h => h) (by assumption) (by rfl) ?g11ry3 ?g11rr3
        case g11ry3 => intro w hSw; obtain ⟨s1, s2⟩ := hSw; go_simp; try with_reducible rfl
        try simp only [Act.put, List.setIfInBounds_toArray, List.set_cons_zero, List.set_cons_succ]
        refine Go.Shr.wpAnyF_take 3 (oi := { dst := some 17, op := Go.Op.fieldAddr 78 (Go.Operand.tmp 16) 0, type := 0, pos := "ref.go:45", after := #[{ on := 2, ground := Go.Ground.data }], guard := none }) (v := ?g11rv4) rfl (by kernel_rfl) (fun _ _ _ h => h) (by assumption) (by rfl) ?g11ry4 ?g11rr4
        case g11ry4 => intro w hSw; obtain ⟨s1, s2⟩ := hSw; go_simp; try with_reducible rfl
        try simp only [Act.put, List.setIfInBounds_toArray, List.set_cons_zero, List.set_cons_succ]
        refine Go.Shr.wpAnyF_take 4 (oi := { dst := some 18, op := Go.Op.load 30 (Go.Operand.tmp 17), type := 30, pos := "ref.go:45", after := #[{ on := 3, ground := Go.Ground.data }], guard := none }) (v := ?g11rv5) rfl (by kernel_rfl) (fun _ _ _ h => h) (by assumption) (by rfl) ?g11ry5 ?g11rr5
        case g11ry5 => intro w hSw; obtain ⟨s1, s2⟩ := hSw; go_simp; try with_reducible rfl
        try simp only [Act.put, List.setIfInBounds_toArray, List.set_cons_zero, List.set_cons_succ]
        refine Go.Shr.wpAnyF_take 5 (oi := { dst := some 19, op := Go.Op.call { callee := Go.Callee.builtin Go.Builtin.len, args := #[Go.Operand.tmp 18], argTypes := #[30] }, type := 3, pos := "ref.go:45", after := #[{ on := 4, ground := Go.Ground.data }], guard := none }) (v := ?g11rv6) rfl (by kernel_rfl) (fun _ _ _ h => h) (by assumption) (by rfl) ?g11ry6 ?g11rr6
        case g11ry6 => intro w hSw; obtain ⟨s1, s2⟩ := hSw; go_simp; try with_reducible rfl
        try simp only [Act.put, List.setIfInBounds_toArray, List.set_cons_zero, List.set_cons_succ]
        refine Go.Shr.wpAnyF_take 6 (oi := { dst := some 20, op := Go.Op.move (Go.Operand.tmp 0), type := 74, pos := "ref.go:45", after := #[], guard := none }) (v := ?g11rv7) rfl (by kernel_rfl) (fun _ _ _ h => h) (by assumption) (by rfl) ?g11ry7 ?g11rr7
        case g11ry7 => intro w hSw; obtain ⟨s1, s2⟩ := hSw; go_simp; try with_reducible rfl
        try simp only [Act.put, List.setIfInBounds_toArray, List.set_cons_zero, List.set_cons_succ]
        refine Go.Shr.wpAnyF_take 7 (oi := { dst := some 21, op := Go.Op.nilCheck (Go.Operand.tmp 20), type := 0, pos := "ref.go:45", after := #[{ on := 6, ground := Go.Ground.data }], guard := none }) (v := ?g11rv8) rfl (by kernel_rfl) (fun _ _ _ h => h) (by assumption) (by rfl) ?g11ry8 ?g11rr8
        case g11ry8 => intro w hSw; obtain ⟨s1, s2⟩ := hSw; go_simp; try with_reducible rfl
        try simp only [Act.put, List.setIfInBounds_toArray, List.set_cons_zero, List.set_cons_succ]
        refine Go.Shr.wpAnyF_take 8 (oi := { dst := some 22, op := Go.Op.fieldAddr 78 (Go.Operand.tmp 21) 1, type := 0, pos := "ref.go:45", after := #[{ on := 7, ground := Go.Ground.data }], guard := none }) (v := ?g11rv9) rfl (by kernel_rfl) (fun _ _ _ h => h) (by assumption) (by rfl) ?g11ry9 ?g11rr9
        case g11ry9 => intro w hSw; obtain ⟨s1, s2⟩ := hSw; go_simp; try with_reducible rfl
        try simp only [Act.put, List.setIfInBounds_toArray, List.set_cons_zero, List.set_cons_succ]
        refine Go.Shr.wpAnyF_take 9 (oi := { dst := some 23, op := Go.Op.load 3 (Go.Operand.tmp 22), type := 3, pos := "ref.go:45", after := #[{ on := 8, ground := Go.Ground.data }], guard := none }) (v := ?g11rv10) rfl (by kernel_rfl) (fun _ _ _ h => h) (by assumption) (by rfl) ?g11ry10 ?g11rr10
        case g11ry10 => intro w hSw; obtain ⟨s1, s2⟩ := hSw; go_simp; try with_reducible rfl
        try simp only [Act.put, List.setIfInBounds_toArray, List.set_cons_zero, List.set_cons_succ]
        refine Go.Shr.wpAnyF_take 10 (oi := { dst := some 24, op := Go.Op.binOp Go.BinOp.sub 3 (Go.Operand.tmp 19) (Go.Operand.tmp 23) 3, type := 3, pos := "ref.go:45", after := #[{ on := 5, ground := Go.Ground.data }, { on := 9, ground := Go.Ground.data }], guard := none }) (v := ?g11rv11) rfl (by kernel_rfl) (fun _ _ _ h => h) (by assumption) (by rfl) ?g11ry11 ?g11rr11
        case g11ry11 => intro w hSw; obtain ⟨s1, s2⟩ := hSw; go_simp; try with_reducible rfl
        try simp only [Act.put, List.setIfInBounds_toArray, List.set_cons_zero, List.set_cons_succ]
        refine Go.Shr.wpAnyF_ready [11] (by kernel_rfl) (by simp) ?_
        refine Go.Shr.AllReadyF.last 11 (o := { dst := some 25, op := Go.Op.binOp Go.BinOp.gtr 3 (Go.Operand.tmp 14) (Go.Operand.tmp 24) 3, type := 4, pos := "ref.go:45", after := #[{ on := 0, ground := Go.Ground.data }, { on := 10, ground := Go.Ground.data }], guard := none }) rfl (by kernel_rfl) (fun K hK => ?g11ro12) ?g11rm12
        case g11rm12 => exact Go.Shr.AllReadyF.nil
        go_simp
        refine hK.out _ _ ?_
        clear hK K
        try simp only [Act.put, List.setIfInBounds_toArray, List.set_cons_zero, List.set_cons_succ]
        refine Go.Shr.wpAnyF_done (by kernel_rfl) ?_
        clear hHeld hwr
        go_wp2_with fail
        have hc2 : Chg (fun k => k = R) w ((w.setCell ⟨R, 1, none⟩ (.int .i64 (q : Int))).drew) := ((Chg.refl (fun k => k = R) w).setCell (p := ⟨R, 1, none⟩) (.inr rfl) _).drew
        have hrw2 : Rw ((w.setCell ⟨R, 1, none⟩ (.int .i64 (q : Int))).drew) R #[.slice ba full.length bcap, .int .i64 (q : Int), .int .i64 0] 78 := (H1.out.rw.set 1 (.int .i64 (q : Int))).drew
        obtain ⟨w2, hw2⟩ : ∃ w2, w2 = ((w.setCell ⟨R, 1, none⟩ (.int .i64 (q : Int))).drew) := ⟨_, rfl⟩
        rw [← hw2] at hc2 hrw2 ⊢
        clear hw2 eA q1 q2 qf
        have HC2 := Lib.hid hc2; have HR2 := Lib.hid hrw2
        have r := hrw2; have hc := hc2
        have eB := HEB.out
        have hr1 := HRN.out
        have hwp : IntKind.i64.wrap (p : Int) = (p : Int) := by rw [IntKind.wrap_i64]; omega
        have wsz := hc2.size
        clear hc2 hrw2
        refine Go.Shr.wp_region_F (fun w' => w'.cell? ⟨R, 0, none⟩ = some (.slice ba full.length bcap) ∧ w'.cell? ⟨R, 1, none⟩ = some (.int .i64 (q : Int))) [17] (by kernel_rfl) ?g12rgS (fun hHeld => ?g12rgR)
        case g12rgS => (try dsimp only); (exact ⟨r.cell 0, r.cell 1⟩)
        try dsimp only at hHeld
        obtain ⟨W, hW⟩ : ∃ W, W = w2.drew := ⟨_, rfl⟩; rw [← hW] at hHeld ⊢; (replace r := Rw.ren hW r.drew); (replace hc : Chg (fun k => k = R) w W := by rw [hW]; exact hc.drew); clear hW
        refine Go.Shr.wpAnyF_take 1 (oi := { dst := some 38, op := Go.Op.move (Go.Operand.tmp 0), type := 74, pos := "ref.go:50", after := #[], guard := none }) (v := ?g12rv1) rfl (by kernel_rfl) (fun _ _ _ h => h) (by assumption) (by rfl) ?g12ry1 ?g12rr1
        case g12ry1 => intro w hSw; obtain ⟨s1, s2⟩ := hSw; go_simp; try with_reducible rfl
        try simp only [Act.put, List.setIfInBounds_toArray, List.set_cons_zero, List.set_cons_succ]
        refine Go.Shr.wpAnyF_take 2 (oi := { dst := some 39, op := Go.Op.nilCheck (Go.Operand.tmp 38), type := 0, pos := "ref.go:50", after := #[{ on := 1, ground := Go.Ground.data }], guard := none }) (v := ?g12rv2) rfl (by kernel_rfl) (fun _ _ _ h => h) (by assumption) (by rfl) ?g12ry2 ?g12rr2
        case g12ry2 => intro w hSw; obtain ⟨s1, s2⟩ := hSw; go_simp; try with_reducible rfl
        try simp only [Act.put, List.setIfInBounds_toArray, List.set_cons_zero, List.set_cons_succ]
        refine Go.Shr.wpAnyF_take 3 (oi := { dst := some 40, op := Go.Op.fieldAddr 78 (Go.Operand.tmp 39) 0, type := 0, pos := "ref.go:50", after := #[{ on := 2, ground := Go.Ground.data }], guard := none }) (v := ?g12rv3) rfl (by kernel_rfl) (fun _ _ _ h => h) (by assumption) (by rfl) ?g12ry3 ?g12rr3
        case g12ry3 => intro w hSw; obtain ⟨s1, s2⟩ := hSw; go_simp; try with_reducible rfl
        try simp only [Act.put, List.setIfInBounds_toArray, List.set_cons_zero, List.set_cons_succ]
        refine Go.Shr.wpAnyF_take 4 (oi := { dst := some 41, op := Go.Op.load 30 (Go.Operand.tmp 40), type := 30, pos := "ref.go:50", after := #[{ on := 3, ground := Go.Ground.data }], guard := none }) (v := ?g12rv4) rfl (by kernel_rfl) (fun _ _ _ h => h) (by assumption) (by rfl) ?g12ry4 ?g12rr4
        case g12ry4 => intro w hSw; obtain ⟨s1, s2⟩ := hSw; go_simp; try with_reducible rfl
        try simp only [Act.put, List.setIfInBounds_toArray, List.set_cons_zero, List.set_cons_succ]
        refine Go.Shr.wpAnyF_take 5 (oi := { dst := some 42, op := Go.Op.move (Go.Operand.tmp 0), type := 74, pos := "ref.go:50", after := #[], guard := none }) (v := ?g12rv5) rfl (by kernel_rfl) (fun _ _ _ h => h) (by assumption) (by rfl) ?g12ry5 ?g12rr5
        case g12ry5 => intro w hSw; obtain ⟨s1, s2⟩ := hSw; go_simp; try with_reducible rfl
        try simp only [Act.put, List.setIfInBounds_toArray, List.set_cons_zero, List.set_cons_succ]
        refine Go.Shr.wpAnyF_take 6 (oi := { dst := some 43, op := Go.Op.nilCheck (Go.Operand.tmp 42), type := 0, pos := "ref.go:50", after := #[{ on := 5, ground := Go.Ground.data }], guard := none }) (v := ?g12rv6) rfl (by kernel_rfl) (fun _ _ _ h => h) (by assumption) (by rfl) ?g12ry6 ?g12rr6
        case g12ry6 => intro w hSw; obtain ⟨s1, s2⟩ := hSw; go_simp; try with_reducible rfl
        try simp only [Act.put, List.setIfInBounds_toArray, List.set_cons_zero, List.set_cons_succ]
        refine Go.Shr.wpAnyF_take 7 (oi := { dst := some 44, op := Go.Op.fieldAddr 78 (Go.Operand.tmp 43) 1, type := 0, pos := "ref.go:50", after := #[{ on := 6, ground := Go.Ground.data }], guard := none }) (v := ?g12rv7) rfl (by kernel_rfl) (fun _ _ _ h => h) (by assumption) (by rfl) ?g12ry7 ?g12rr7
        case g12ry7 => intro w hSw; obtain ⟨s1, s2⟩ := hSw; go_simp; try with_reducible rfl
        try simp only [Act.put, List.setIfInBounds_toArray, List.set_cons_zero, List.set_cons_succ]
        refine Go.Shr.wpAnyF_take 8 (oi := { dst := some 45, op := Go.Op.load 3 (Go.Operand.tmp 44), type := 3, pos := "ref.go:50", after := #[{ on := 7, ground := Go.Ground.data }], guard := none }) (v := ?g12rv8) rfl (by kernel_rfl) (fun _ _ _ h => h) (by assumption) (by rfl) ?g12ry8 ?g12rr8
        case g12ry8 => intro w hSw; obtain ⟨s1, s2⟩ := hSw; go_simp; try with_reducible rfl
        try simp only [Act.put, List.setIfInBounds_toArray, List.set_cons_zero, List.set_cons_succ]
        refine Go.Shr.wpAnyF_take 9 (oi := { dst := some 46, op := Go.Op.move (Go.Operand.tmp 1), type := 3, pos := "ref.go:50", after := #[], guard := none }) (v := ?g12rv9) rfl (by kernel_rfl) (fun _ _ _ h => h) (by assumption) (by rfl) ?g12ry9 ?g12rr9
        case g12ry9 => intro w hSw; obtain ⟨s1, s2⟩ := hSw; go_simp; try with_reducible rfl
        try simp only [Act.put, List.setIfInBounds_toArray, List.set_cons_zero, List.set_cons_succ]
        refine Go.Shr.wpAnyF_take 10 (oi := { dst := some 47, op := Go.Op.binOp Go.BinOp.sub 3 (Go.Operand.tmp 45) (Go.Operand.tmp 46) 3, type := 3, pos := "ref.go:50", after := #[{ on := 8, ground := Go.Ground.data }, { on := 9, ground := Go.Ground.data }], guard := none }) (v := ?g12rv10) rfl (by kernel_rfl) (fun _ _ _ h => h) (by assumption) (by rfl) ?g12ry10 ?g12rr10
        case g12ry10 => intro w hSw; obtain ⟨s1, s2⟩ := hSw; go_simp; try with_reducible rfl
        try simp only [Act.put, List.setIfInBounds_toArray, List.set_cons_zero, List.set_cons_succ]
        refine Go.Shr.wpAnyF_take 11 (oi := { dst := some 48, op := Go.Op.move (Go.Operand.tmp 0), type := 74, pos := "ref.go:50", after := #[], guard := none }) (v := ?g12rv11) rfl (by kernel_rfl) (fun _ _ _ h => h) (by assumption) (by rfl) ?g12ry11 ?g12rr11
        case g12ry11 => intro w hSw; obtain ⟨s1, s2⟩ := hSw; go_simp; try with_reducible rfl
        try simp only [Act.put, List.setIfInBounds_toArray, List.set_cons_zero, List.set_cons_succ]
        refine Go.Shr.wpAnyF_take 12 (oi := { dst := some 49, op := Go.Op.nilCheck (Go.Operand.tmp 48), type := 0, pos := "ref.go:50", after := #[{ on := 11, ground := Go.Ground.data }], guard := none }) (v := ?g12rv12) rfl (by kernel_rfl) (fun _ _ _ h => h) (by assumption) (by rfl) ?g12ry12 ?g12rr12
        case g12ry12 => intro w hSw; obtain ⟨s1, s2⟩ := hSw; go_simp; try with_reducible rfl
        try simp only [Act.put, List.setIfInBounds_toArray, List.set_cons_zero, List.set_cons_succ]
        refine Go.Shr.wpAnyF_take 13 (oi := { dst := some 50, op := Go.Op.fieldAddr 78 (Go.Operand.tmp 49) 1, type := 0, pos := "ref.go:50", after := #[{ on := 12, ground := Go.Ground.data }], guard := none }) (v := ?g12rv13) rfl (by kernel_rfl) (fun _ _ _ h => h) (by assumption) (by rfl) ?g12ry13 ?g12rr13
        case g12ry13 => intro w hSw; obtain ⟨s1, s2⟩ := hSw; go_simp; try with_reducible rfl
        try simp only [Act.put, List.setIfInBounds_toArray, List.set_cons_zero, List.set_cons_succ]
        refine Go.Shr.wpAnyF_take 14 (oi := { dst := some 51, op := Go.Op.load 3 (Go.Operand.tmp 50), type := 3, pos := "ref.go:50", after := #[{ on := 13, ground := Go.Ground.data }], guard := none }) (v := ?g12rv14) rfl (by kernel_rfl) (fun _ _ _ h => h) (by assumption) (by rfl) ?g12ry14 ?g12rr14
        case g12ry14 => intro w hSw; obtain ⟨s1, s2⟩ := hSw; go_simp; try with_reducible rfl
        try simp only [Act.put, List.setIfInBounds_toArray, List.set_cons_zero, List.set_cons_succ]
        refine Go.Shr.wpAnyF_take 15 (oi := { dst := some 52, op := Go.Op.slice 30 (Go.Operand.tmp 41) (some (Go.Operand.tmp 47)) (some (Go.Operand.tmp 51)) none, type := 30, pos := "ref.go:50", after := #[{ on := 4, ground := Go.Ground.data }, { on := 10, ground := Go.Ground.data }, { on := 14, ground := Go.Ground.data }], guard := none }) (v := ?g12rv15) rfl (by kernel_rfl) (fun _ _ _ h => h) (by assumption) (by rfl) ?g12ry15 ?g12rr15
        case g12ry15 => intro w hSw; obtain ⟨s1, s2⟩ := hSw; go_simp; try with_reducible rfl
        try simp only [Act.put, List.setIfInBounds_toArray, List.set_cons_zero, List.set_cons_succ]
        refine Go.Shr.wpAnyF_ready [0] (by kernel_rfl) (by simp) ?_
        refine Go.Shr.AllReadyF.cons 0 (o := { dst := some 37, op := Go.Op.buildSlice 30 0 #[], type := 30, pos := "ref.go:50", after := #[], guard := none }) rfl (fun K hK => ?g12ro16) ?g12rm16
        case g12rm16 => exact Go.Shr.AllReadyF.nil
        go_simp; refine gen_w (fun W hW => ?_); (replace r := Rw.ren hW (Rw.alloc r _)); (replace hc : Chg (fun k => k = R) w W := by rw [hW]; exact hc.alloc _); clear hW
        refine hK.out _ _ ?g12rs16 (fun hHeld => ?g12rt16)
        case g12rs16 => (try dsimp only); (exact ⟨r.cell 0, r.cell 1⟩)
        try dsimp only at hHeld
        clear hK K
        try simp only [Act.put, List.setIfInBounds_toArray, List.set_cons_zero, List.set_cons_succ]
        refine Go.Shr.wpAnyF_ready [16] (by kernel_rfl) (by simp) ?_
        refine Go.Shr.AllReadyF.cons 16 (o := { dst := some 53, op := Go.Op.call { callee := Go.Callee.builtin Go.Builtin.append, args := #[Go.Operand.tmp 37, Go.Operand.tmp 52], argTypes := #[30, 30] }, type := 30, pos := "ref.go:50", after := #[{ on := 0, ground := Go.Ground.data }, { on := 15, ground := Go.Ground.data }], guard := none }) rfl (fun K hK => ?g12ro17) ?g12rm17
        case g12rm17 => exact Go.Shr.AllReadyF.nil
        (have hz := hc.size); (have hsl := HS1.out.chg hc (fun k hk => by omega)); (refine step_append (B := w.heap.size) rfl _ _ _ _ rfl i0 (.int .u8 0) 1 Try.underlying30 hi0 hz0 hz1 hz2 rfl rfl (Own.bare _ _ _ _ _) _ rfl n _ (hsl.src (P := Try.prog) (tx := 30) Try.underlying30 (u8s_one _)) (by simp only [maxLen]; omega) (by omega) hz ?_; intro a6 cap6 W6 ho6 hc6 hn6); (replace r := r.chg hc6 (fun h => by omega)); (replace hc := hc.trans hc6 (fun i hi h => by omega))
        refine hK.out _ _ ?g12rs17 (fun hHeld => ?g12rt17)
        case g12rs17 => (try dsimp only); (exact ⟨r.cell 0, r.cell 1⟩)
        try dsimp only at hHeld
        clear hK K
        try simp only [Act.put, List.setIfInBounds_toArray, List.set_cons_zero, List.set_cons_succ]
        refine Go.Shr.wpAnyF_ready [17] (by kernel_rfl) (by simp) ?_
        refine Go.Shr.AllReadyF.last 17 (o := { dst := some 4, op := Go.Op.assign (Go.Operand.tmp 53), type := 30, pos := "ref.go:50", after := #[{ on := 16, ground := Go.Ground.data }, { on := 16, ground := Go.Ground.chain }, { on := 0, ground := Go.Ground.phase }, { on := 1, ground := Go.Ground.phase }, { on := 2, ground := Go.Ground.phase }, { on := 3, ground := Go.Ground.phase }, { on := 4, ground := Go.Ground.phase }, { on := 5, ground := Go.Ground.phase }, { on := 6, ground := Go.Ground.phase }, { on := 7, ground := Go.Ground.phase }, { on := 8, ground := Go.Ground.phase }, { on := 9, ground := Go.Ground.phase }, { on := 10, ground := Go.Ground.phase }, { on := 11, ground := Go.Ground.phase }, { on := 12, ground := Go.Ground.phase }, { on := 13, ground := Go.Ground.phase }, { on := 14, ground := Go.Ground.phase }, { on := 15, ground := Go.Ground.phase }, { on := 16, ground := Go.Ground.phase }], guard := none }) rfl (by kernel_rfl) (fun K hK => ?g12ro18) ?g12rm18
        case g12rm18 => exact Go.Shr.AllReadyF.nil
        go_simp
        refine hK.out _ _ ?_
        clear hK K
        try simp only [Act.put, List.setIfInBounds_toArray, List.set_cons_zero, List.set_cons_succ]
        refine Go.Shr.wpAnyF_done (by kernel_rfl) ?_
        clear hr1 eB hwp
        go_wp2_with fail
        go_ret
        rw [HT.out]
        dsimp only
        rw [HL.out]
        have ho : Own w.heap.size W6 5 1 a6 n cap6 (u8s (bs.take n)) := by simpa using ho6
        refine ⟨a6, cap6, by simp, ho.sl.mono (fun k _ h => h.2.2) (by decide), ⟨ba, bcap, full, q, H1.out.set hc r hqle, ?_⟩, hc⟩
        rw [H2.out, List.drop_drop, HQ.out]
  · have HT : Hid (takeS n bs e = ([], bs, e)) := Lib.hid (by unfold takeS; rw [if_pos he])
    have heb : ((e : Int) != 0) = true := by simp; omega
    have hec : ((e : Int) == 0) = false := beq_eq_false_iff_ne.2 (by omega)
    clear he
    go_enter Try.func55, Try.ntmps55
    go_wp2_with fail
    go_ret
    rw [HT.out]
    exact ⟨none, 0, rfl, Sl.nil _ _ _ _, HH.out, Chg.refl _ _⟩
end Go.Proofs.Ytofhlopedflkiaa
namespace Go.Proofs.Ytofhlopedflkiaa
open Go.RowKit Go.Shr
set_option maxHeartbeats 1000000 in
set_option maxRecDepth 100000 in
theorem rget_v (R : Nat) (bs : List UInt8) (e n : Nat) (w : World) (h : RdR R w bs e) (hn : n ≤ 8) (hn0 : 0 < n) :
    Calls Try.prog 54 #[.pointer (some ⟨R, 0, none⟩), .int .i64 (n : Int)] w fun en w' => en = .returned (.int .u64 (ofLe (takeS n bs e).1 : Int)) ∧ RdR R w' (takeS n bs e).2.1 (takeS n bs e).2.2 ∧ Chg (fun k => k = R) w w' := by
  have hdl : (takeS n bs e).1.length ≤ n := by have := congrArg List.length (takeB_S n hn0 bs e); have := takeB_len n (takeS n bs e).1; omega
  have H := Lib.hid h; clear h
  have hn8 : ¬ (8 : Int) < (n : Int) := by omega
  go_enter Try.func54, Try.ntmps54
  go_wp2_with fail
  refine (rtake_v R bs e n w H.out (by omega)).mono ?_
  rintro en w1 ⟨a1, c1, rfl, hs1, hr1, hc1⟩
  have HS1 := Lib.hid hs1; have HR1 := Lib.hid hr1; have HC1 := Lib.hid hc1
  generalize hD : (takeS n bs e).1 = ds at *
  have HD := Lib.hid hD
  clear hs1 hr1 hc1 hn8 hD
  go_wp2_with fail
  go_loop [6, 7] (fun v i => ∃ (k : Nat), v = .int .u64 (ofLe (ds.take k) : Int) ∧ i = .int .i64 k ∧ k ≤ ds.length) (fun _ i => ds.length - (intOf i).toNat)
  case atStart => exact ⟨0, by simp [ofLe], rfl, Nat.zero_le _⟩
  case round =>
    obtain ⟨k, rfl, rfl, hk⟩ := hrel
    by_cases hlt : k < ds.length
    · obtain ⟨b, off, rfl, _, hc⟩ := HS1.out.pos (by omega)
      have hcell := hc k _ (u8s_get ds k hlt)
      have hacc := ofLe_lt (ds.take k)
      have hkl : (ds.take k).length = k := by simp; omega
      rw [hkl] at hacc
      have HX : Hid (ofLe (ds.take (k + 1)) = ofLe (ds.take k) + ds[k].toNat * 256 ^ k) := Lib.hid (by rw [List.take_succ_eq_append_getElem hlt, ofLe_snoc, hkl])
      have hx := ds[k].toNat_lt
      generalize ds[k] = x at *
      clear hc hkl
      have hS : x.toNat * 256 ^ k < 18446744073709551616 := by
        have h8 : (256 : Nat) ^ k ≤ 256 ^ 7 := Nat.pow_le_pow_right (by decide) (by omega)
        have := Nat.mul_le_mul (show x.toNat ≤ 255 by omega) h8
        omega
      have ho := or_add8 (y := x.toNat) hacc (by omega) (by omega)
      have hw := shl_wrap8 x.toNat k hS
      clear hS hacc
      generalize hSd : x.toNat * 256 ^ k = S at *
      generalize ofLe (ds.take k) = acc at *
      go_wp2_with fail
      go_round
      case rel => exact ⟨k + 1, by rw [HX.out]; congr 1, by go_num, by omega⟩
      case measure => simp [intOf]; omega
    · obtain rfl : k = ds.length := by omega
      rw [List.take_length]
      go_wp2_with fail
      go_ret
      rw [HD.out]
      exact ⟨rfl, HR1.out, HC1.out⟩
set_option maxHeartbeats 1000000 in
set_option maxRecDepth 100000 in
/-- The document's bit: where there is no error it is a bit. -/
theorem rbit_v (R : Nat) (bs : List UInt8) (e : Nat) (w : World) (h : RdR R w bs e) :
    Calls Try.prog 53 #[.pointer (some ⟨R, 0, none⟩)] w fun en w' => ∃ (v : Nat) (bs' : List UInt8) (e' : Nat), en = .returned (.int .i64 (v : Int)) ∧ v ≤ 255 ∧ Res e (rdBit bs) v bs' e' ∧ RdR R w' bs' e' ∧ Chg (fun k => k = R) w w' := by
  have H := Lib.hid h
  clear h
  have hsp : Hid ((e = 0 ∧ (∃ b r, bs = b :: r ∧ ofLe (takeS 1 bs e).1 = b.toNat ∧ (takeS 1 bs e).2.1 = r ∧ (takeS 1 bs e).2.2 = 0)) ∨ (ofLe (takeS 1 bs e).1 = 0 ∧ (∀ v bs', Res e (rdBit bs) v bs' (takeS 1 bs e).2.2))) := Lib.hid (by
    by_cases he : e = 0
    · subst he
      cases bs with
      | nil => exact .inr ⟨rfl, fun v bs' => Res.err rfl (by decide)⟩
      | cons b r => exact .inl ⟨rfl, b, r, rfl, by simp [takeS, ofLe], by simp [takeS], by simp [takeS]⟩
    · exact .inr ⟨by simp [takeS, he, ofLe], fun v bs' => by
        have : (takeS 1 bs e).2.2 = e := by simp [takeS, he]
        rw [this]; exact Res.bad he⟩)
  go_enter Try.func53, Try.ntmps53
  go_wp2_with fail
  refine (rget_v R bs e 1 w H.out (by decide) (by decide)).mono ?_
  rintro en w1 ⟨rfl, hr1, hc1⟩
  have HR1 := Lib.hid hr1; have HC1 := Lib.hid hc1
  clear hr1 hc1
  rcases hsp.out with ⟨rfl, b, r, rfl, e1, e2, e3⟩ | ⟨e1, HD⟩
  · rw [e1]
    rw [e2, e3] at HR1
    have hb := b.toNat_lt
    clear e1 e2 e3 hsp
    by_cases hb1 : 1 < b.toNat
    · have HD : Hid (rdBit (b :: r) = .error 10) := Lib.hid (by rw [rdBit, if_pos hb1])
      have hb1' : (1 : Int) < (b.toNat : Int) := by omega
      clear hb1
      go_wp2_with fail
      refine (rfail_v R r 0 10 w1 HR1.out).mono ?_
      rintro en w2 ⟨⟨v, rfl⟩, hr2, hc2⟩
      have HR2 := Lib.hid hr2; have HC2 := Lib.hid (HC1.out.trans hc2 (fun _ _ h => h))
      clear hr2 hc2
      go_wp2_with fail
      go_ret
      exact ⟨b.toNat, r, 10, rfl, by omega, Res.err HD.out (by decide), HR2.out, HC2.out⟩
    · have HD : Hid (rdBit (b :: r) = .ok (b.toNat, r)) := Lib.hid (by rw [rdBit, if_neg hb1])
      have hb1' : ¬ (1 : Int) < (b.toNat : Int) := by omega
      clear hb1
      go_wp2_with fail
      go_ret
      exact ⟨b.toNat, r, 0, rfl, by omega, Res.good HD.out, HR1.out, HC1.out⟩
  · rw [e1]
    have HDD := Lib.hid HD
    clear HD e1 hsp
    go_wp2_with fail
    go_ret
    exact ⟨0, _, _, rfl, by omega, HDD.out _ _, HR1.out, HC1.out⟩
set_option maxHeartbeats 1000000 in
set_option maxRecDepth 100000 in
theorem rread_v (R : Nat) (bs : List UInt8) (e : Nat) (w : World) (h : RdR R w bs e) :
    Calls Try.prog 51 #[.pointer (some ⟨R, 0, none⟩)] w fun en w' => ∃ (v : Nat) (bs' : List UInt8) (e' : Nat), en = .returned (.int .u64 (v : Int)) ∧ Hid ((e ≠ 0 → v = 0 ∧ e' = e) ∧ (e = 0 → (vget bs).2.2 ≠ 0 → v = 0 ∧ e' = (vget bs).2.2) ∧ (e = 0 → (vget bs).2.2 = 0 → v = (vget bs).1 ∧ bs' = bs.drop (vget bs).2.1 ∧ e' = 0)) ∧ RdR R w' bs' e' ∧ Chg (fun k => k = R) w w' := by
  obtain ⟨i0, hi0, hz0, hz1, hz2⟩ := info_parts info_u8
  have HH := Lib.hid h
  obtain ⟨ba, bcap, full, p, h1, h2⟩ := h
  have q0 : w.cell? ⟨R, 0, none⟩ = some (.slice ba full.length bcap) := h1.rw.cell 0
  have q1 : w.cell? ⟨R, 1, none⟩ = some (.int .i64 (p : Int)) := h1.rw.cell 1
  have q2 : w.cell? ⟨R, 2, none⟩ = some (.int .i64 (e : Int)) := h1.rw.cell 2
  have hle := h1.le
  have hsm := h1.small
  have HC := Lib.hid (And.intro q0 q1)
  have H1 := Lib.hid h1
  have H2 := Lib.hid h2
  clear h1 h2 q0 q1
  by_cases he : e = 0
  · obtain ⟨a1, hr1, hs1⟩ := Sl.from (P := Try.prog) (t := 30) Try.underlying30 hi0 hz1 H1.out.sl .i64 (p : Int) (by omega) (by omega)
    rw [Int.toNat_natCast] at hr1 hs1
    rw [Nat.mul_one, show (u8s full).drop p = u8s bs by rw [H2.out]; simp [u8s]] at hs1
    have hbl : full.length - p = bs.length := by rw [H2.out]; simp
    rw [hbl] at hr1 hs1
    have HS1 := Lib.hid hs1
    have hvn := vget_n bs
    have qf := H1.out.rw.frozen
    have ql := H1.out.rw.lt
    subst he
    have hbsz : bs.length ≤ 10000000000000 := by omega
    have HBL := Lib.hid hbl
    have hg := fun (w : World) (h : Sl (fun b => b < R) w 1 a1 bs.length (bcap - p) (u8s bs)) => rget_u8 (fun b => b < R) a1 bs.length (bcap - p) bs w h hbsz
    generalize (vget bs).1 = v at *
    generalize (vget bs).2.1 = m at *
    generalize (vget bs).2.2 = er at *
    have HG := Lib.hid hg
    clear hs1 hbl hg
    go_enter Try.func51, Try.ntmps51
    go_wp2_with fail
    refine Go.Shr.wp_region_F (fun w' => w'.cell? ⟨R, 0, none⟩ = some (.slice ba full.length bcap) ∧ w'.cell? ⟨R, 1, none⟩ = some (.int .i64 (p : Int))) [16] (by kernel_rfl) ?g13rgS (fun hHeld => ?g13rgR)
    case g13rgS => (try dsimp only); (exact HC.out)
    try dsimp only at hHeld
    refine Go.Shr.wpAnyF_take 0 (oi := { dst := some 12, op := Go.Op.move (Go.Operand.tmp 0), type := 74, pos := "ref.go:54", after := #[], guard := none }) (v := ?g13rv1) rfl (by kernel_rfl) (fun _ _ _ h => h) (by assumption) (by rfl) ?g13ry1 ?g13rr1
    case g13ry1 => intro w hSw; obtain ⟨s1, s2⟩ := hSw; go_simp; try with_reducible rfl
    try simp only [Act.put, List.setIfInBounds_toArray, List.set_cons_zero, List.set_cons_succ]
    refine Go.Shr.wpAnyF_take 1 (oi := { dst := some 13, op := Go.Op.nilCheck (Go.Operand.tmp 12), type := 0, pos := "ref.go:54", after := #[{ on := 0, ground := Go.Ground.data }], guard := none }) (v := ?g13rv2) rfl (by kernel_rfl) (fun _ _ _ h => h) (by assumption) (by rfl) ?g13ry2 ?g13rr2
    case g13ry2 => intro w hSw; obtain ⟨s1, s2⟩ := hSw; go_simp; try with_reducible rfl
    try simp only [Act.put, List.setIfInBounds_toArray, List.set_cons_zero, List.set_cons_succ]
    refine Go.Shr.wpAnyF_take 2 (oi := { dst := some 14, op := Go.Op.fieldAddr 78 (Go.Operand.tmp 13) 0, type := 0, pos := "ref.go:54", after := #[{ on := 1, ground := Go.Ground.data }], guard := none }) (v := ?g13rv3) rfl (by kernel_rfl) (fun _ _ _ h => h) (by assumption) (by rfl) ?g13ry3 ?g13rr3
    case g13ry3 => intro w hSw; obtain ⟨s1, s2⟩ := hSw; go_simp; try with_reducible rfl
    try simp only [Act.put, List.setIfInBounds_toArray, List.set_cons_zero, List.set_cons_succ]
    refine Go.Shr.wpAnyF_take 3 (oi := { dst := some 15, op := Go.Op.load 30 (Go.Operand.tmp 14), type := 30, pos := "ref.go:54", after := #[{ on := 2, ground := Go.Ground.data }], guard := none }) (v := ?g13rv4) rfl (by kernel_rfl) (fun _ _ _ h => h) (by assumption) (by rfl) ?g13ry4 ?g13rr4
    case g13ry4 => intro w hSw; obtain ⟨s1, s2⟩ := hSw; go_simp; try with_reducible rfl
    try simp only [Act.put, List.setIfInBounds_toArray, List.set_cons_zero, List.set_cons_succ]
    refine Go.Shr.wpAnyF_take 4 (oi := { dst := some 16, op := Go.Op.move (Go.Operand.tmp 0), type := 74, pos := "ref.go:54", after := #[], guard := none }) (v := ?g13rv5) rfl (by kernel_rfl) (fun _ _ _ h => h) (by assumption) (by rfl) ?g13ry5 ?g13rr5
    case g13ry5 => intro w hSw; obtain ⟨s1, s2⟩ := hSw; go_simp; try with_reducible rfl
    try simp only [Act.put, List.setIfInBounds_toArray, List.set_cons_zero, List.set_cons_succ]
    refine Go.Shr.wpAnyF_take 5 (oi := { dst := some 17, op := Go.Op.nilCheck (Go.Operand.tmp 16), type := 0, pos := "ref.go:54", after := #[{ on := 4, ground := Go.Ground.data }], guard := none }) (v := ?g13rv6) rfl (by kernel_rfl) (fun _ _ _ h => h) (by assumption) (by rfl) ?g13ry6 ?g13rr6
    case g13ry6 => intro w hSw; obtain ⟨s1, s2⟩ := hSw; go_simp; try with_reducible rfl
    try simp only [Act.put, List.setIfInBounds_toArray, List.set_cons_zero, List.set_cons_succ]
    refine Go.Shr.wpAnyF_take 6 (oi := { dst := some 18, op := Go.Op.fieldAddr 78 (Go.Operand.tmp 17) 1, type := 0, pos := "ref.go:54", after := #[{ on := 5, ground := Go.Ground.data }], guard := none }) (v := ?g13rv7) rfl (by kernel_rfl) (fun _ _ _ h => h) (by assumption) (by rfl) ?g13ry7 ?g13rr7
    case g13ry7 => intro w hSw; obtain ⟨s1, s2⟩ := hSw; go_simp; try with_reducible rfl
    try simp only [Act.put, List.setIfInBounds_toArray, List.set_cons_zero, List.set_cons_succ]
    refine Go.Shr.wpAnyF_take 7 (oi := { dst := some 19, op := Go.Op.load 3 (Go.Operand.tmp 18), type := 3, pos := "ref.go:54", after := #[{ on := 6, ground := Go.Ground.data }], guard := none }) (v := ?g13rv8) rfl (by kernel_rfl) (fun _ _ _ h => h) (by assumption) (by rfl) ?g13ry8 ?g13rr8
    case g13ry8 => intro w hSw; obtain ⟨s1, s2⟩ := hSw; go_simp; try with_reducible rfl
    try simp only [Act.put, List.setIfInBounds_toArray, List.set_cons_zero, List.set_cons_succ]
    refine Go.Shr.wpAnyF_take 8 (oi := { dst := some 20, op := Go.Op.slice 30 (Go.Operand.tmp 15) (some (Go.Operand.tmp 19)) none none, type := 30, pos := "ref.go:54", after := #[{ on := 3, ground := Go.Ground.data }, { on := 7, ground := Go.Ground.data }], guard := none }) (v := ?g13rv9) rfl (by kernel_rfl) (fun _ _ _ h => h) (by assumption) (by rfl) ?g13ry9 ?g13rr9
    case g13ry9 => intro w hSw; obtain ⟨s1, s2⟩ := hSw; go_simp; try with_reducible rfl
    try simp only [Act.put, List.setIfInBounds_toArray, List.set_cons_zero, List.set_cons_succ]
    refine Go.Shr.wpAnyF_ready [9] (by kernel_rfl) (by simp) ?_
    refine Go.Shr.AllReadyF.cons 9 (o := { dst := some 21, op := Go.Op.call { callee := Go.Callee.value (Go.Operand.func 65), args := #[Go.Operand.tmp 20], argTypes := #[30] }, type := 102, pos := "ref.go:54", after := #[{ on := 8, ground := Go.Ground.data }], guard := none }) rfl (fun K hK => ?g13ro10) ?g13rm10
    case g13rm10 => exact Go.Shr.AllReadyF.nil
    go_simp; refine (HG.out w.drew HS1.out.drew).mono ?_; rintro e9 w9 ⟨rfl, rfl⟩; dsimp only
    refine hK.out _ _ ?g13rs10 (fun hHeld => ?g13rt10)
    case g13rs10 => (try dsimp only); (exact HC.out)
    try dsimp only at hHeld
    clear hK K
    try simp only [Act.put, List.setIfInBounds_toArray, List.set_cons_zero, List.set_cons_succ]
    refine Go.Shr.wpAnyF_take 10 (oi := { dst := some 11, op := Go.Op.move (Go.Operand.tmp 21), type := 102, pos := "ref.go:54", after := #[{ on := 9, ground := Go.Ground.data }], guard := none }) (v := ?g13rv11) rfl (by kernel_rfl) (fun _ _ _ h => h) (by assumption) (by rfl) ?g13ry11 ?g13rr11
    case g13ry11 => intro w hSw; obtain ⟨s1, s2⟩ := hSw; go_simp; try with_reducible rfl
    try simp only [Act.put, List.setIfInBounds_toArray, List.set_cons_zero, List.set_cons_succ]
    refine Go.Shr.wpAnyF_take 11 (oi := { dst := some 22, op := Go.Op.extract (Go.Operand.tmp 11) 0, type := 59, pos := "ref.go:54", after := #[{ on := 10, ground := Go.Ground.data }], guard := none }) (v := ?g13rv12) rfl (by kernel_rfl) (fun _ _ _ h => h) (by assumption) (by rfl) ?g13ry12 ?g13rr12
    case g13ry12 => intro w hSw; obtain ⟨s1, s2⟩ := hSw; go_simp; try with_reducible rfl
    try simp only [Act.put, List.setIfInBounds_toArray, List.set_cons_zero, List.set_cons_succ]
    refine Go.Shr.wpAnyF_take 12 (oi := { dst := some 23, op := Go.Op.extract (Go.Operand.tmp 11) 1, type := 3, pos := "ref.go:54", after := #[{ on := 10, ground := Go.Ground.data }, { on := 14, ground := Go.Ground.gcOnly Go.Departure.lateStores }], guard := none }) (v := ?g13rv13) rfl (by kernel_rfl) (fun _ _ _ h => h) (by assumption) (by rfl) ?g13ry13 ?g13rr13
    case g13ry13 => intro w hSw; obtain ⟨s1, s2⟩ := hSw; go_simp; try with_reducible rfl
    try simp only [Act.put, List.setIfInBounds_toArray, List.set_cons_zero, List.set_cons_succ]
    refine Go.Shr.wpAnyF_take 13 (oi := { dst := some 24, op := Go.Op.extract (Go.Operand.tmp 11) 2, type := 3, pos := "ref.go:54", after := #[{ on := 10, ground := Go.Ground.data }, { on := 15, ground := Go.Ground.gcOnly Go.Departure.lateStores }], guard := none }) (v := ?g13rv14) rfl (by kernel_rfl) (fun _ _ _ h => h) (by assumption) (by rfl) ?g13ry14 ?g13rr14
    case g13ry14 => intro w hSw; obtain ⟨s1, s2⟩ := hSw; go_simp; try with_reducible rfl
    try simp only [Act.put, List.setIfInBounds_toArray, List.set_cons_zero, List.set_cons_succ]
    refine Go.Shr.wpAnyF_take 14 (oi := { dst := some 3, op := Go.Op.assign (Go.Operand.tmp 22), type := 59, pos := "ref.go:54", after := #[{ on := 11, ground := Go.Ground.data }, { on := 9, ground := Go.Ground.chain }, { on := 0, ground := Go.Ground.phase }, { on := 1, ground := Go.Ground.phase }, { on := 2, ground := Go.Ground.phase }, { on := 3, ground := Go.Ground.phase }, { on := 4, ground := Go.Ground.phase }, { on := 5, ground := Go.Ground.phase }, { on := 6, ground := Go.Ground.phase }, { on := 7, ground := Go.Ground.phase }, { on := 8, ground := Go.Ground.phase }, { on := 9, ground := Go.Ground.phase }, { on := 10, ground := Go.Ground.phase }, { on := 11, ground := Go.Ground.phase }, { on := 12, ground := Go.Ground.textOnly Go.Departure.lateStores }, { on := 13, ground := Go.Ground.textOnly Go.Departure.lateStores }], guard := none }) (v := ?g13rv15) rfl (by kernel_rfl) (fun _ _ _ h => h) (by assumption) (by rfl) ?g13ry15 ?g13rr15
    case g13ry15 => intro w hSw; obtain ⟨s1, s2⟩ := hSw; go_simp; try with_reducible rfl
    try simp only [Act.put, List.setIfInBounds_toArray, List.set_cons_zero, List.set_cons_succ]
    refine Go.Shr.wpAnyF_take 15 (oi := { dst := some 4, op := Go.Op.assign (Go.Operand.tmp 23), type := 3, pos := "ref.go:54", after := #[{ on := 12, ground := Go.Ground.data }, { on := 14, ground := Go.Ground.chain }, { on := 0, ground := Go.Ground.phase }, { on := 1, ground := Go.Ground.phase }, { on := 2, ground := Go.Ground.phase }, { on := 3, ground := Go.Ground.phase }, { on := 4, ground := Go.Ground.phase }, { on := 5, ground := Go.Ground.phase }, { on := 6, ground := Go.Ground.phase }, { on := 7, ground := Go.Ground.phase }, { on := 8, ground := Go.Ground.phase }, { on := 9, ground := Go.Ground.phase }, { on := 10, ground := Go.Ground.phase }, { on := 11, ground := Go.Ground.phase }, { on := 12, ground := Go.Ground.phase }, { on := 13, ground := Go.Ground.textOnly Go.Departure.lateStores }, { on := 14, ground := Go.Ground.phase }], guard := none }) (v := ?g13rv16) rfl (by kernel_rfl) (fun _ _ _ h => h) (by assumption) (by rfl) ?g13ry16 ?g13rr16
    case g13ry16 => intro w hSw; obtain ⟨s1, s2⟩ := hSw; go_simp; try with_reducible rfl
    try simp only [Act.put, List.setIfInBounds_toArray, List.set_cons_zero, List.set_cons_succ]
    refine Go.Shr.wpAnyF_ready [16] (by kernel_rfl) (by simp) ?_
    refine Go.Shr.AllReadyF.last 16 (o := { dst := some 5, op := Go.Op.assign (Go.Operand.tmp 24), type := 3, pos := "ref.go:54", after := #[{ on := 13, ground := Go.Ground.data }, { on := 15, ground := Go.Ground.chain }, { on := 0, ground := Go.Ground.phase }, { on := 1, ground := Go.Ground.phase }, { on := 2, ground := Go.Ground.phase }, { on := 3, ground := Go.Ground.phase }, { on := 4, ground := Go.Ground.phase }, { on := 5, ground := Go.Ground.phase }, { on := 6, ground := Go.Ground.phase }, { on := 7, ground := Go.Ground.phase }, { on := 8, ground := Go.Ground.phase }, { on := 9, ground := Go.Ground.phase }, { on := 10, ground := Go.Ground.phase }, { on := 11, ground := Go.Ground.phase }, { on := 12, ground := Go.Ground.phase }, { on := 13, ground := Go.Ground.phase }, { on := 14, ground := Go.Ground.phase }, { on := 15, ground := Go.Ground.phase }], guard := none }) rfl (by kernel_rfl) (fun K hK => ?g13ro17) ?g13rm17
    case g13rm17 => exact Go.Shr.AllReadyF.nil
    go_simp
    refine hK.out _ _ ?_
    clear hK K
    try simp only [Act.put, List.setIfInBounds_toArray, List.set_cons_zero, List.set_cons_succ]
    refine Go.Shr.wpAnyF_done (by kernel_rfl) ?_
    clear hr1
    clear hHeld
    by_cases her : er = 0
    · subst her
      have q1 := HC.out.2
      have eA : (p : Int) + (m : Int) = ((p + m : Nat) : Int) := by omega
      obtain ⟨q, hq⟩ : ∃ q : Nat, q = p + m := ⟨_, rfl⟩
      rw [← hq] at eA
      have hqle : q ≤ full.length := by have := HBL.out; omega
      have HQ := Lib.hid hq
      clear hq
      go_wp2_with fail
      have hc2 : Chg (fun k => k = R) w ((w.setCell ⟨R, 1, none⟩ (.int .i64 (q : Int))).drew) := ((Chg.refl (fun k => k = R) w).setCell (p := ⟨R, 1, none⟩) (.inr rfl) _).drew
      have hrw2 : Rw ((w.setCell ⟨R, 1, none⟩ (.int .i64 (q : Int))).drew) R #[.slice ba full.length bcap, .int .i64 (q : Int), .int .i64 0] 78 := (H1.out.rw.set 1 (.int .i64 (q : Int))).drew
      go_ret
      exact ⟨v, rfl, bs.drop m, 0, Lib.hid (by simp), ⟨ba, bcap, full, q, H1.out.set hc2 hrw2 hqle, by rw [H2.out, List.drop_drop, HQ.out]⟩, hc2⟩
    · have heb : ((er : Int) != 0) = true := by simp; omega
      have hec : ((er : Int) == 0) = false := beq_eq_false_iff_ne.2 (by omega)
      have HER := Lib.hid her
      clear her
      go_wp2_with fail
      refine (rfail_v R bs 0 er w.drew (HH.out.below (b0 w).drew)).mono ?_
      rintro en w1 ⟨⟨vv, rfl⟩, hr1, hc1⟩
      rw [if_pos rfl] at hr1
      have HR1 := Lib.hid hr1; have HC1 := Lib.hid ((Chg.refl (fun k => k = R) w).drew.trans hc1 (fun _ _ h => h))
      clear hr1 hc1
      go_wp2_with fail
      go_ret
      exact ⟨0, bs, er, rfl, Lib.hid ⟨fun h => absurd rfl h, fun _ _ => ⟨rfl, rfl⟩, fun _ h => absurd h HER.out⟩, HR1.out, HC1.out⟩
  · have heb : ((e : Int) != 0) = true := by simp; omega
    have hec : ((e : Int) == 0) = false := beq_eq_false_iff_ne.2 (by omega)
    go_enter Try.func51, Try.ntmps51
    go_wp2_with fail
    go_ret
    exact ⟨0, bs, e, rfl, Lib.hid ⟨fun _ => ⟨rfl, rfl⟩, fun h => absurd h he, fun h => absurd h he⟩, HH.out, Chg.refl _ _⟩
set_option maxHeartbeats 1000000 in
set_option maxRecDepth 100000 in
theorem rnum_v (R : Nat) (bs : List UInt8) (e most wrong : Nat) (w : World) (h : RdR R w bs e) (hm : most ≤ 1000) (hw : wrong ≠ 0) :
    Calls Try.prog 36 #[.pointer (some ⟨R, 0, none⟩), .int .i64 (most : Int), .int .i64 (wrong : Int)] w fun en w' => ∃ (v : Nat) (bs' : List UInt8) (e' : Nat), en = .returned (.int .i64 (v : Int)) ∧ v ≤ most ∧ Res e (rdNum most wrong bs) v bs' e' ∧ RdR R w' bs' e' ∧ Chg (fun k => k = R) w w' := by
  have H := Lib.hid h
  have HW := Lib.hid hw
  clear h hw
  have HG : Hid (rdNum most wrong bs = if (vget bs).2.2 ≠ 0 then .error (vget bs).2.2 else if most < (vget bs).1 then .error wrong else .ok ((vget bs).1, bs.drop (vget bs).2.1)) := Lib.hid rfl
  go_enter Try.func36, Try.ntmps36
  go_wp2_with fail
  refine (rread_v R bs e w H.out).mono ?_
  rintro en w1 ⟨v, bs1, e1, rfl, hv, hr1, hc1⟩
  have HR1 := Lib.hid hr1; have HC1 := Lib.hid hc1
  clear hr1 hc1
  by_cases hgt : most < v
  · have hD : e1 = 0 ∧ (e = 0 → rdNum most wrong bs = .error wrong) ∧ e = 0 := by
      obtain ⟨g1, g2, g3⟩ := hv.out
      by_cases he : e = 0
      · by_cases her : (vget bs).2.2 = 0
        · obtain ⟨rfl, rfl, rfl⟩ := g3 he her
          exact ⟨rfl, fun _ => by rw [HG.out, if_neg (fun h => h her), if_pos hgt], he⟩
        · obtain ⟨rfl, _⟩ := g2 he her
          omega
      · obtain ⟨rfl, _⟩ := g1 he
        omega
    obtain ⟨rfl, hD, rfl⟩ := hD
    have HD := Lib.hid (hD rfl)
    have hgt' : (most : Int) < (v : Int) := by omega
    clear hD hgt hv HG
    go_wp2_with fail
    refine (rfail_v R bs1 0 wrong w1 HR1.out).mono ?_
    rintro en w2 ⟨⟨vv, rfl⟩, hr2, hc2⟩
    rw [if_pos rfl] at hr2
    have HR2 := Lib.hid hr2; have HC2 := Lib.hid (HC1.out.trans hc2 (fun _ _ h => h))
    clear hr2 hc2
    go_wp2_with fail
    go_ret
    exact ⟨0, bs1, wrong, rfl, by omega, Res.err HD.out HW.out, HR2.out, HC2.out⟩
  · have HD : Hid (Res e (rdNum most wrong bs) v bs1 e1) := Lib.hid (by
      obtain ⟨g1, g2, g3⟩ := hv.out
      by_cases he : e = 0
      · subst he
        by_cases her : (vget bs).2.2 = 0
        · obtain ⟨rfl, rfl, rfl⟩ := g3 rfl her
          exact Res.good (by rw [HG.out, if_neg (fun h => h her), if_neg hgt])
        · obtain ⟨rfl, rfl⟩ := g2 rfl her
          exact Res.err (by rw [HG.out, if_pos her]) her
      · obtain ⟨rfl, rfl⟩ := g1 he
        exact Res.bad he)
    have hgt' : ¬ (most : Int) < (v : Int) := by omega
    have hvm : v ≤ most := by omega
    clear hgt hv HG
    go_wp2_with fail
    go_ret
    exact ⟨v, bs1, e1, rfl, hvm, HD.out, HR1.out, HC1.out⟩
end Go.Proofs.Ytofhlopedflkiaa
