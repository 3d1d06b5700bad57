/-
  The walks of the document's leaf, fits, Fits. The walks of the document's fits, Fits.
-/
import Derived.Test.YtgpffcgkfgiodaaFitP
import Derived.Test.YtgpffcgkfgiodaaMake8
import Derived.Deep.CutRange
import Derived.Deep.CutBlock
set_option linter.unusedSimpArgs false
namespace Go.Proofs.Ytgpffcgkfgiodaa
open Go.RowKit Go.Shr
set_option maxHeartbeats 4000000 in
theorem rleaf_v (kind : Int) (t : Tr) (a : Option Addr) (m cap : Nat) (hm : m = t.kids.length) (w : World) (h1 : 1 ≤ kind) (h4 : kind ≤ 4) (hsx : t.s.size ≤ maxLen) :
    Calls Try.prog 53 #[.int .i64 kind, .agg #[.int .i64 t.n, .string t.s, .slice a m cap]] w fun e w' => e = .returned (.int .i64 (leafT kind t)) ∧ Below w.heap.size w w' := by
  obtain ⟨n, s, ks⟩ := t
  simp only [Tr.n, Tr.s, Tr.kids] at *
  unfold maxLen at hsx
  have HE : Hid (leafT kind (.mk n s ks) = if 0 < m ∨ (kind = 4 ∧ n ≠ 0) ∨ (kind ≠ 4 ∧ s.toList ≠ []) then 13
    else if kind = 1 then (if n < 0 ∨ 1 < n then 14 else 0) else if kind = 2 then (if n < -2147483648 ∨ 2147483647 < n then 14 else 0) else if kind = 3 then 0 else if 100 < s.size then 5 else 0) := Lib.hid (by rw [hm]; rfl)
  clear hm
  generalize leafT kind (.mk n s ks) = R at *
  have hk : kind = 1 ∨ kind = 2 ∨ kind = 3 ∨ kind = 4 := by omega
  by_cases hm : 0 < m
  · have HR : Hid (R = 13) := Lib.hid (by rw [HE.out, if_pos (.inl hm)])
    clear HE
    go_enter Try.func53, Try.ntmps53
    go_wp2_with fail
    go_ret
    exact ⟨ret_i HR.out.symm, by repeat (first | with_reducible exact Below.refl _ _ | refine ba ?_ _)⟩
  obtain rfl : m = 0 := by omega
  clear hm
  have hsl := str_len s
  have hs0 : (s.size ≤ 100 ∧ s.toList = [] ∧ (!s.toList.isEmpty) = false) ∨ (s.toList ≠ [] ∧ (!s.toList.isEmpty) = true) := by
    by_cases h : s.toList = []
    · exact .inl ⟨by rw [h] at hsl; simp at hsl; omega, h, by rw [h]; rfl⟩
    · exact .inr ⟨h, by cases hc : s.toList with | nil => exact absurd hc h | cons => rfl⟩
  rcases hk with rfl | rfl | rfl | rfl
  · rcases hs0 with ⟨hz, hs, hse⟩ | ⟨hs, hse⟩
    · have HR : Hid (R = if n < 0 ∨ 1 < n then 14 else 0) := Lib.hid (by rw [HE.out]; simp [hs])
      clear HE hsl hs
      have hn : n < 0 ∨ 1 < n ∨ (0 ≤ n ∧ n ≤ 1) := by omega
      rcases hn with hn | hn | ⟨hn, hn'⟩
      · replace HR : Hid (R = 14) := Lib.hid (by rw [HR.out, if_pos (.inl hn)])
        go_enter Try.func53, Try.ntmps53
        go_wp2_with fail
        go_ret
        exact ⟨ret_i HR.out.symm, by repeat (first | with_reducible exact Below.refl _ _ | refine ba ?_ _)⟩
      · replace HR : Hid (R = 14) := Lib.hid (by rw [HR.out, if_pos (.inr hn)])
        go_enter Try.func53, Try.ntmps53
        go_wp2_with fail
        go_ret
        exact ⟨ret_i HR.out.symm, by repeat (first | with_reducible exact Below.refl _ _ | refine ba ?_ _)⟩
      · replace HR : Hid (R = 0) := Lib.hid (by rw [HR.out, if_neg (by omega)])
        go_enter Try.func53, Try.ntmps53
        go_wp2_with fail
        go_ret
        exact ⟨ret_i HR.out.symm, by repeat (first | with_reducible exact Below.refl _ _ | refine ba ?_ _)⟩
    · have HR : Hid (R = 13) := Lib.hid (by rw [HE.out, if_pos (.inr (.inr ⟨by decide, hs⟩))])
      clear HE hsl hs
      go_enter Try.func53, Try.ntmps53
      go_wp2_with fail
      go_ret
      exact ⟨ret_i HR.out.symm, by repeat (first | with_reducible exact Below.refl _ _ | refine ba ?_ _)⟩
  · rcases hs0 with ⟨hz, hs, hse⟩ | ⟨hs, hse⟩
    · have HR : Hid (R = if n < -2147483648 ∨ 2147483647 < n then 14 else 0) := Lib.hid (by rw [HE.out]; simp [hs])
      clear HE hsl hs
      have hn : n < -2147483648 ∨ 2147483647 < n ∨ (-2147483648 ≤ n ∧ n ≤ 2147483647) := by omega
      rcases hn with hn | hn | ⟨hn, hn'⟩
      · replace HR : Hid (R = 14) := Lib.hid (by rw [HR.out, if_pos (.inl hn)])
        go_enter Try.func53, Try.ntmps53
        go_wp2_with fail
        go_ret
        exact ⟨ret_i HR.out.symm, by repeat (first | with_reducible exact Below.refl _ _ | refine ba ?_ _)⟩
      · replace HR : Hid (R = 14) := Lib.hid (by rw [HR.out, if_pos (.inr hn)])
        go_enter Try.func53, Try.ntmps53
        go_wp2_with fail
        go_ret
        exact ⟨ret_i HR.out.symm, by repeat (first | with_reducible exact Below.refl _ _ | refine ba ?_ _)⟩
      · replace HR : Hid (R = 0) := Lib.hid (by rw [HR.out, if_neg (by omega)])
        go_enter Try.func53, Try.ntmps53
        go_wp2_with fail
        go_ret
        exact ⟨ret_i HR.out.symm, by repeat (first | with_reducible exact Below.refl _ _ | refine ba ?_ _)⟩
    · have HR : Hid (R = 13) := Lib.hid (by rw [HE.out, if_pos (.inr (.inr ⟨by decide, hs⟩))])
      clear HE hsl hs
      go_enter Try.func53, Try.ntmps53
      go_wp2_with fail
      go_ret
      exact ⟨ret_i HR.out.symm, by repeat (first | with_reducible exact Below.refl _ _ | refine ba ?_ _)⟩
  · rcases hs0 with ⟨hz, hs, hse⟩ | ⟨hs, hse⟩
    · have HR : Hid (R = 0) := Lib.hid (by rw [HE.out]; simp [hs])
      clear HE hsl hs
      go_enter Try.func53, Try.ntmps53
      go_wp2_with fail
      go_ret
      exact ⟨ret_i HR.out.symm, by repeat (first | with_reducible exact Below.refl _ _ | refine ba ?_ _)⟩
    · have HR : Hid (R = 13) := Lib.hid (by rw [HE.out, if_pos (.inr (.inr ⟨by decide, hs⟩))])
      clear HE hsl hs
      go_enter Try.func53, Try.ntmps53
      go_wp2_with fail
      go_ret
      exact ⟨ret_i HR.out.symm, by repeat (first | with_reducible exact Below.refl _ _ | refine ba ?_ _)⟩
  · by_cases hn : n = 0
    · subst hn
      by_cases hz : 100 < s.size
      · have HR : Hid (R = 5) := Lib.hid (by rw [HE.out]; simp [hz])
        clear HE hsl hs0
        go_enter Try.func53, Try.ntmps53
        go_wp2_with fail
        go_ret
        exact ⟨ret_i HR.out.symm, by repeat (first | with_reducible exact Below.refl _ _ | refine ba ?_ _)⟩
      · have HR : Hid (R = 0) := Lib.hid (by rw [HE.out]; simp [hz])
        clear HE hsl hs0
        go_enter Try.func53, Try.ntmps53
        go_wp2_with fail
        go_ret
        exact ⟨ret_i HR.out.symm, by repeat (first | with_reducible exact Below.refl _ _ | refine ba ?_ _)⟩
    · have HR : Hid (R = 13) := Lib.hid (by rw [HE.out, if_pos (.inr (.inl ⟨rfl, hn⟩))])
      have hnb : (n == 0) = false := beq_eq_false_iff_ne.2 hn
      have hnb2 : (n != 0) = true := by simp [hn]
      clear HE hn hsl hs0
      go_enter Try.func53, Try.ntmps53
      go_wp2_with fail
      go_ret
      exact ⟨ret_i HR.out.symm, by repeat (first | with_reducible exact Below.refl _ _ | refine ba ?_ _)⟩
end Go.Proofs.Ytgpffcgkfgiodaa
namespace Go.Proofs.Ytgpffcgkfgiodaa
open Go.RowKit Go.Shr
/-- What the document says of all trees of less than so many values. -/
def RFitTo (N : Nat) (l : List Fl) : Prop := ∀ (t : Tr), t.size < N → ∀ (i : Nat), i < l.length → ∀ (sa pa : Option Addr) (sc pc : Nat) (a : Option Addr) (cap : Nat) (w : World), Sl (fun b => b < w.heap.size) w 4 sa l.length sc (fls l) → Sl (fun b => b < w.heap.size) w 1 pa l.length pc (ints (par l)) → TrAt w t [.int .i64 t.n, .string t.s, .slice a t.kids.length cap] →
  Calls Try.prog 43 #[.slice sa l.length sc, .slice pa l.length pc, .int .i64 (i : Int), .agg #[.int .i64 t.n, .string t.s, .slice a t.kids.length cap]] w fun e w' => e = .returned (.int .i64 (fitT l (KF l) t i)) ∧ Below w.heap.size w w'
theorem drop_cons {α : Type} {js : List α} {k : Nat} {x : α} {r : List α} (h : js.drop k = x :: r) : ∃ hk : k < js.length, js[k] = x ∧ js.drop (k + 1) = r := by
  have hk : k < js.length := by
    rcases Nat.lt_or_ge k js.length with h1 | h1
    · exact h1
    · rw [List.drop_eq_nil_of_le h1] at h; cases h
  rw [List.drop_eq_getElem_cons hk] at h
  injection h with h1 h2
  exact ⟨hk, h1, h2⟩
set_option maxHeartbeats 8000000 in
set_option maxRecDepth 100000 in
theorem rfit_step (N : Nat) (l : List Fl) (hw : Wf l) (hG : ∀ (i : Nat) (h : i < l.length), l[i].kind = 0 → l[i].kids = ((KF l i).length : Int)) (IH : RFitTo N l) : RFitTo (N + 1) l := by
  intro t hN i hi sa pa sc pc a cap w hs hp hT
  obtain ⟨_, _, _, xs, hcs, hm, hss, hsl, hk⟩ := id hT.parts
  simp at hcs
  obtain ⟨rfl, rfl, rfl⟩ := hcs
  have hmx := Nat.le_trans hsl.le hsl.max
  unfold maxLen at hmx
  have hl1 := hw.len
  obtain ⟨sb, soff, rfl, hsb, hsc⟩ := hs.pos (by omega)
  obtain ⟨_, _, f2, f3⟩ := fls_get l i hi
  replace f2 := hsc _ _ f2
  replace f3 := hsc _ _ f3
  rw [← Nat.add_assoc] at f2 f3
  have HFl : Hid (flAt l i = l[i]) := Lib.hid (by simp [flAt, hi])
  have hkd := hw.kind l[i] (List.getElem_mem hi)
  have hgi := hG i hi
  have HR : Hid (fitT l (KF l) t i = if l[i].kind ≠ 0 then leafT l[i].kind t else if t.n ≠ 0 ∨ t.s.toList ≠ [] ∨ t.kids.length ≠ (KF l i).length then 13 else fitK l (KF l) t.kids (KF l i)) := Lib.hid (by rw [fitT_eq, HFl.out])
  generalize l[i].kind = kd at *
  generalize l[i].kids = kn at *
  have HS := Lib.hid hs; have HP := Lib.hid hp; have HT := Lib.hid hT; have HIH := Lib.hid IH; have HSL := Lib.hid hsl; have HK := Lib.hid hk
  have HWF := Lib.hid hw; have HSC := Lib.hid hsc
  clear hs hp hT IH hsl hk hm hG hw hsc
  by_cases hkz : kd = 0
  · subst hkz
    have hkn := hgi rfl
    have HR2 : Hid (fitT l (KF l) t i = if t.n ≠ 0 ∨ t.s.toList ≠ [] ∨ t.kids.length ≠ (KF l i).length then 13 else fitK l (KF l) t.kids (KF l i)) := Lib.hid (by rw [HR.out, if_neg (fun h => h rfl)])
    clear HR hgi HFl
    subst hkn
    have HJS : Hid (rest (par l) i (i + 1) = KF l i) := Lib.hid (by
      rw [rest_start (fun j hj => (par_bd l j hj).2), ← kidsOf_kf]; rfl)
    generalize KF l i = js at *
    by_cases hn0 : t.n = 0
    · by_cases hs0 : t.s.toList = []
      · by_cases hm : t.kids.length = js.length
        · have HRX : Hid (fitT l (KF l) t i = fitK l (KF l) (t.kids.drop 0) (js.drop 0)) := Lib.hid (by rw [HR2.out, if_neg (by rintro (h | h | h); exact h hn0; exact h hs0; exact h hm)]; rfl)
          have hnb : (t.n != 0) = false := by simp [hn0]
          have hsb' : (!t.s.toList.isEmpty) = false := by rw [hs0]; rfl
          have hmb : ((t.kids.length : Int) != (js.length : Int)) = false := by simp [hm]
          have HM := Lib.hid hm
          clear HR2 hn0 hs0 hm
          go_enter Try.func43, Try.ntmps43
          go_wp2_with fail
          have hbx := ba (b0 w) (.cells #[.int .i64 t.n, .string t.s, .slice a t.kids.length cap] 48)
          have r5 := Rw.new w #[.int .i64 t.n, .string t.s, .slice a t.kids.length cap] 48
          generalize w.alloc (.cells #[.int .i64 t.n, .string t.s, .slice a t.kids.length cap] 48) = wx at hbx r5 ⊢
          have p1 := cb hbx f3
          have hi0 : (0 : Int) ≤ (i : Int) := by omega
          have hi1 : (i : Int) < (l.length : Int) := by omega
          refine Go.Shr.wp_region_F (fun w' => w'.cell? ⟨sb, soff + i * 4 + 3, none⟩ = some (.int .i64 (js.length : Int)) ∧ Rw w' w.heap.size #[.int .i64 t.n, .string t.s, .slice a t.kids.length cap] 48) [] (by kernel_rfl) ?g10rgS (fun hHeld => ?g10rgR)
          case g10rgS => (try dsimp only); (exact ⟨p1, r5.drew⟩)
          try dsimp only at hHeld
          refine Go.Shr.wpAnyF_take 0 (oi := { dst := some 27, op := Go.Op.fieldAddr 48 (Go.Operand.tmp 7) 0, type := 0, pos := "ref.go:38", after := #[], guard := none }) (v := ?g10rv1) rfl (by kernel_rfl) (fun _ _ _ h => h) (by assumption) (by rfl) ?g10ry1 ?g10rr1
          case g10ry1 => intro wS hSw; (obtain ⟨g2, g3⟩ := hSw); (have z0 : wS.cell? ⟨w.heap.size, 0, none⟩ = some (.int .i64 t.n) := g3.cell 0); (have z1 : wS.cell? ⟨w.heap.size, 1, none⟩ = some (.string t.s) := g3.cell 1); (have z2 : wS.cell? ⟨w.heap.size, 2, none⟩ = some (.slice a t.kids.length cap) := g3.cell 2); go_simp; try with_reducible rfl
          try simp only [Act.put, List.setIfInBounds_toArray, List.set_cons_zero, List.set_cons_succ]
          refine Go.Shr.wpAnyF_take 1 (oi := { dst := some 28, op := Go.Op.load 3 (Go.Operand.tmp 27), type := 3, pos := "ref.go:38", after := #[{ on := 0, ground := Go.Ground.data }], guard := none }) (v := ?g10rv2) rfl (by kernel_rfl) (fun _ _ _ h => h) (by assumption) (by rfl) ?g10ry2 ?g10rr2
          case g10ry2 => intro wS hSw; (obtain ⟨g2, g3⟩ := hSw); (have z0 : wS.cell? ⟨w.heap.size, 0, none⟩ = some (.int .i64 t.n) := g3.cell 0); (have z1 : wS.cell? ⟨w.heap.size, 1, none⟩ = some (.string t.s) := g3.cell 1); (have z2 : wS.cell? ⟨w.heap.size, 2, none⟩ = some (.slice a t.kids.length cap) := g3.cell 2); go_simp; try with_reducible rfl
          try simp only [Act.put, List.setIfInBounds_toArray, List.set_cons_zero, List.set_cons_succ]
          refine Go.Shr.wpAnyF_take 2 (oi := { dst := some 29, op := Go.Op.binOp Go.BinOp.neq 3 (Go.Operand.tmp 28) (Go.Operand.const (Go.Value.int Go.IntKind.i64 0)) 3, type := 4, pos := "ref.go:38", after := #[{ on := 1, ground := Go.Ground.data }], guard := none }) (v := ?g10rv3) rfl (by kernel_rfl) (fun _ _ _ h => h) (by assumption) (by rfl) ?g10ry3 ?g10rr3
          case g10ry3 => intro wS hSw; (obtain ⟨g2, g3⟩ := hSw); (have z0 : wS.cell? ⟨w.heap.size, 0, none⟩ = some (.int .i64 t.n) := g3.cell 0); (have z1 : wS.cell? ⟨w.heap.size, 1, none⟩ = some (.string t.s) := g3.cell 1); (have z2 : wS.cell? ⟨w.heap.size, 2, none⟩ = some (.slice a t.kids.length cap) := g3.cell 2); go_simp; try with_reducible rfl
          try simp only [Act.put, List.setIfInBounds_toArray, List.set_cons_zero, List.set_cons_succ]
          refine Go.Shr.wpAnyF_take 3 (oi := { dst := some 30, op := Go.Op.move (Go.Operand.tmp 29), type := 4, pos := "ref.go:38", after := #[{ on := 2, ground := Go.Ground.data }], guard := none }) (v := ?g10rv4) rfl (by kernel_rfl) (fun _ _ _ h => h) (by assumption) (by rfl) ?g10ry4 ?g10rr4
          case g10ry4 => intro wS hSw; (obtain ⟨g2, g3⟩ := hSw); (have z0 : wS.cell? ⟨w.heap.size, 0, none⟩ = some (.int .i64 t.n) := g3.cell 0); (have z1 : wS.cell? ⟨w.heap.size, 1, none⟩ = some (.string t.s) := g3.cell 1); (have z2 : wS.cell? ⟨w.heap.size, 2, none⟩ = some (.slice a t.kids.length cap) := g3.cell 2); go_simp; try with_reducible rfl
          try simp only [Act.put, List.setIfInBounds_toArray, List.set_cons_zero, List.set_cons_succ]
          first
            | refine Go.Shr.wpAnyF_skip 4 (oi := { dst := some 31, op := Go.Op.fieldAddr 48 (Go.Operand.tmp 7) 1, type := 0, pos := "ref.go:38", after := #[{ on := 3, ground := Go.Ground.guard }], guard := some (3, false) }) rfl (by kernel_rfl) (fun _ _ _ h => h) (by assumption) (by rfl) ?_
            | (refine Go.Shr.wpAnyF_take 4 (oi := { dst := some 31, op := Go.Op.fieldAddr 48 (Go.Operand.tmp 7) 1, type := 0, pos := "ref.go:38", after := #[{ on := 3, ground := Go.Ground.guard }], guard := some (3, false) }) (v := ?g10rv5) rfl (by kernel_rfl) (fun _ _ _ h => h) (by assumption) (by rfl) ?g10ry5 ?g10rr5
               case g10ry5 => intro wS hSw; (obtain ⟨g2, g3⟩ := hSw); (have z0 : wS.cell? ⟨w.heap.size, 0, none⟩ = some (.int .i64 t.n) := g3.cell 0); (have z1 : wS.cell? ⟨w.heap.size, 1, none⟩ = some (.string t.s) := g3.cell 1); (have z2 : wS.cell? ⟨w.heap.size, 2, none⟩ = some (.slice a t.kids.length cap) := g3.cell 2); go_simp; try with_reducible rfl)
          try simp only [Act.put, List.setIfInBounds_toArray, List.set_cons_zero, List.set_cons_succ]
          first
            | refine Go.Shr.wpAnyF_skip 5 (oi := { dst := some 32, op := Go.Op.load 9 (Go.Operand.tmp 31), type := 9, pos := "ref.go:38", after := #[{ on := 4, ground := Go.Ground.data }, { on := 3, ground := Go.Ground.guard }], guard := some (3, false) }) rfl (by kernel_rfl) (fun _ _ _ h => h) (by assumption) (by rfl) ?_
            | (refine Go.Shr.wpAnyF_take 5 (oi := { dst := some 32, op := Go.Op.load 9 (Go.Operand.tmp 31), type := 9, pos := "ref.go:38", after := #[{ on := 4, ground := Go.Ground.data }, { on := 3, ground := Go.Ground.guard }], guard := some (3, false) }) (v := ?g10rv6) rfl (by kernel_rfl) (fun _ _ _ h => h) (by assumption) (by rfl) ?g10ry6 ?g10rr6
               case g10ry6 => intro wS hSw; (obtain ⟨g2, g3⟩ := hSw); (have z0 : wS.cell? ⟨w.heap.size, 0, none⟩ = some (.int .i64 t.n) := g3.cell 0); (have z1 : wS.cell? ⟨w.heap.size, 1, none⟩ = some (.string t.s) := g3.cell 1); (have z2 : wS.cell? ⟨w.heap.size, 2, none⟩ = some (.slice a t.kids.length cap) := g3.cell 2); go_simp; try with_reducible rfl)
          try simp only [Act.put, List.setIfInBounds_toArray, List.set_cons_zero, List.set_cons_succ]
          first
            | refine Go.Shr.wpAnyF_skip 6 (oi := { dst := some 33, op := Go.Op.binOp Go.BinOp.neq 9 (Go.Operand.tmp 32) (Go.Operand.const (Go.Value.string { data := #[] })) 9, type := 4, pos := "ref.go:38", after := #[{ on := 5, ground := Go.Ground.data }, { on := 3, ground := Go.Ground.guard }], guard := some (3, false) }) rfl (by kernel_rfl) (fun _ _ _ h => h) (by assumption) (by rfl) ?_
            | (refine Go.Shr.wpAnyF_take 6 (oi := { dst := some 33, op := Go.Op.binOp Go.BinOp.neq 9 (Go.Operand.tmp 32) (Go.Operand.const (Go.Value.string { data := #[] })) 9, type := 4, pos := "ref.go:38", after := #[{ on := 5, ground := Go.Ground.data }, { on := 3, ground := Go.Ground.guard }], guard := some (3, false) }) (v := ?g10rv7) rfl (by kernel_rfl) (fun _ _ _ h => h) (by assumption) (by rfl) ?g10ry7 ?g10rr7
               case g10ry7 => intro wS hSw; (obtain ⟨g2, g3⟩ := hSw); (have z0 : wS.cell? ⟨w.heap.size, 0, none⟩ = some (.int .i64 t.n) := g3.cell 0); (have z1 : wS.cell? ⟨w.heap.size, 1, none⟩ = some (.string t.s) := g3.cell 1); (have z2 : wS.cell? ⟨w.heap.size, 2, none⟩ = some (.slice a t.kids.length cap) := g3.cell 2); go_simp; try with_reducible rfl)
          try simp only [Act.put, List.setIfInBounds_toArray, List.set_cons_zero, List.set_cons_succ]
          refine Go.Shr.wpAnyF_take 7 (oi := { dst := some 34, op := Go.Op.pick (Go.Operand.tmp 30) (Go.Operand.const (Go.Value.bool true)) (Go.Operand.tmp 33), type := 4, pos := "ref.go:38", after := #[{ on := 3, ground := Go.Ground.data }, { on := 6, ground := Go.Ground.data }], guard := none }) (v := ?g10rv8) rfl (by kernel_rfl) (fun _ _ _ h => h) (by assumption) (by rfl) ?g10ry8 ?g10rr8
          case g10ry8 => intro wS hSw; (obtain ⟨g2, g3⟩ := hSw); (have z0 : wS.cell? ⟨w.heap.size, 0, none⟩ = some (.int .i64 t.n) := g3.cell 0); (have z1 : wS.cell? ⟨w.heap.size, 1, none⟩ = some (.string t.s) := g3.cell 1); (have z2 : wS.cell? ⟨w.heap.size, 2, none⟩ = some (.slice a t.kids.length cap) := g3.cell 2); go_simp; try with_reducible rfl
          try simp only [Act.put, List.setIfInBounds_toArray, List.set_cons_zero, List.set_cons_succ]
          refine Go.Shr.wpAnyF_take 8 (oi := { dst := some 35, op := Go.Op.move (Go.Operand.tmp 34), type := 4, pos := "ref.go:38", after := #[{ on := 7, ground := Go.Ground.data }, { on := 3, ground := Go.Ground.chain }], guard := none }) (v := ?g10rv9) rfl (by kernel_rfl) (fun _ _ _ h => h) (by assumption) (by rfl) ?g10ry9 ?g10rr9
          case g10ry9 => intro wS hSw; (obtain ⟨g2, g3⟩ := hSw); (have z0 : wS.cell? ⟨w.heap.size, 0, none⟩ = some (.int .i64 t.n) := g3.cell 0); (have z1 : wS.cell? ⟨w.heap.size, 1, none⟩ = some (.string t.s) := g3.cell 1); (have z2 : wS.cell? ⟨w.heap.size, 2, none⟩ = some (.slice a t.kids.length cap) := g3.cell 2); go_simp; try with_reducible rfl
          try simp only [Act.put, List.setIfInBounds_toArray, List.set_cons_zero, List.set_cons_succ]
          first
            | refine Go.Shr.wpAnyF_skip 9 (oi := { dst := some 36, op := Go.Op.fieldAddr 48 (Go.Operand.tmp 7) 2, type := 0, pos := "ref.go:38", after := #[{ on := 8, ground := Go.Ground.guard }], guard := some (8, false) }) rfl (by kernel_rfl) (fun _ _ _ h => h) (by assumption) (by rfl) ?_
            | (refine Go.Shr.wpAnyF_take 9 (oi := { dst := some 36, op := Go.Op.fieldAddr 48 (Go.Operand.tmp 7) 2, type := 0, pos := "ref.go:38", after := #[{ on := 8, ground := Go.Ground.guard }], guard := some (8, false) }) (v := ?g10rv10) rfl (by kernel_rfl) (fun _ _ _ h => h) (by assumption) (by rfl) ?g10ry10 ?g10rr10
               case g10ry10 => intro wS hSw; (obtain ⟨g2, g3⟩ := hSw); (have z0 : wS.cell? ⟨w.heap.size, 0, none⟩ = some (.int .i64 t.n) := g3.cell 0); (have z1 : wS.cell? ⟨w.heap.size, 1, none⟩ = some (.string t.s) := g3.cell 1); (have z2 : wS.cell? ⟨w.heap.size, 2, none⟩ = some (.slice a t.kids.length cap) := g3.cell 2); go_simp; try with_reducible rfl)
          try simp only [Act.put, List.setIfInBounds_toArray, List.set_cons_zero, List.set_cons_succ]
          first
            | refine Go.Shr.wpAnyF_skip 10 (oi := { dst := some 37, op := Go.Op.load 46 (Go.Operand.tmp 36), type := 46, pos := "ref.go:38", after := #[{ on := 9, ground := Go.Ground.data }, { on := 8, ground := Go.Ground.guard }], guard := some (8, false) }) rfl (by kernel_rfl) (fun _ _ _ h => h) (by assumption) (by rfl) ?_
            | (refine Go.Shr.wpAnyF_take 10 (oi := { dst := some 37, op := Go.Op.load 46 (Go.Operand.tmp 36), type := 46, pos := "ref.go:38", after := #[{ on := 9, ground := Go.Ground.data }, { on := 8, ground := Go.Ground.guard }], guard := some (8, false) }) (v := ?g10rv11) rfl (by kernel_rfl) (fun _ _ _ h => h) (by assumption) (by rfl) ?g10ry11 ?g10rr11
               case g10ry11 => intro wS hSw; (obtain ⟨g2, g3⟩ := hSw); (have z0 : wS.cell? ⟨w.heap.size, 0, none⟩ = some (.int .i64 t.n) := g3.cell 0); (have z1 : wS.cell? ⟨w.heap.size, 1, none⟩ = some (.string t.s) := g3.cell 1); (have z2 : wS.cell? ⟨w.heap.size, 2, none⟩ = some (.slice a t.kids.length cap) := g3.cell 2); go_simp; try with_reducible rfl)
          try simp only [Act.put, List.setIfInBounds_toArray, List.set_cons_zero, List.set_cons_succ]
          first
            | refine Go.Shr.wpAnyF_skip 11 (oi := { dst := some 38, op := Go.Op.call { callee := Go.Callee.builtin Go.Builtin.len, args := #[Go.Operand.tmp 37], argTypes := #[46] }, type := 3, pos := "ref.go:38", after := #[{ on := 10, ground := Go.Ground.data }, { on := 8, ground := Go.Ground.guard }], guard := some (8, false) }) rfl (by kernel_rfl) (fun _ _ _ h => h) (by assumption) (by rfl) ?_
            | (refine Go.Shr.wpAnyF_take 11 (oi := { dst := some 38, op := Go.Op.call { callee := Go.Callee.builtin Go.Builtin.len, args := #[Go.Operand.tmp 37], argTypes := #[46] }, type := 3, pos := "ref.go:38", after := #[{ on := 10, ground := Go.Ground.data }, { on := 8, ground := Go.Ground.guard }], guard := some (8, false) }) (v := ?g10rv12) rfl (by kernel_rfl) (fun _ _ _ h => h) (by assumption) (by rfl) ?g10ry12 ?g10rr12
               case g10ry12 => intro wS hSw; (obtain ⟨g2, g3⟩ := hSw); (have z0 : wS.cell? ⟨w.heap.size, 0, none⟩ = some (.int .i64 t.n) := g3.cell 0); (have z1 : wS.cell? ⟨w.heap.size, 1, none⟩ = some (.string t.s) := g3.cell 1); (have z2 : wS.cell? ⟨w.heap.size, 2, none⟩ = some (.slice a t.kids.length cap) := g3.cell 2); go_simp; try with_reducible rfl)
          try simp only [Act.put, List.setIfInBounds_toArray, List.set_cons_zero, List.set_cons_succ]
          first
            | refine Go.Shr.wpAnyF_skip 12 (oi := { dst := some 39, op := Go.Op.move (Go.Operand.tmp 0), type := 25, pos := "ref.go:38", after := #[{ on := 8, ground := Go.Ground.guard }], guard := some (8, false) }) rfl (by kernel_rfl) (fun _ _ _ h => h) (by assumption) (by rfl) ?_
            | (refine Go.Shr.wpAnyF_take 12 (oi := { dst := some 39, op := Go.Op.move (Go.Operand.tmp 0), type := 25, pos := "ref.go:38", after := #[{ on := 8, ground := Go.Ground.guard }], guard := some (8, false) }) (v := ?g10rv13) rfl (by kernel_rfl) (fun _ _ _ h => h) (by assumption) (by rfl) ?g10ry13 ?g10rr13
               case g10ry13 => intro wS hSw; (obtain ⟨g2, g3⟩ := hSw); (have z0 : wS.cell? ⟨w.heap.size, 0, none⟩ = some (.int .i64 t.n) := g3.cell 0); (have z1 : wS.cell? ⟨w.heap.size, 1, none⟩ = some (.string t.s) := g3.cell 1); (have z2 : wS.cell? ⟨w.heap.size, 2, none⟩ = some (.slice a t.kids.length cap) := g3.cell 2); go_simp; try with_reducible rfl)
          try simp only [Act.put, List.setIfInBounds_toArray, List.set_cons_zero, List.set_cons_succ]
          first
            | refine Go.Shr.wpAnyF_skip 13 (oi := { dst := some 40, op := Go.Op.move (Go.Operand.tmp 2), type := 3, pos := "ref.go:38", after := #[{ on := 8, ground := Go.Ground.guard }], guard := some (8, false) }) rfl (by kernel_rfl) (fun _ _ _ h => h) (by assumption) (by rfl) ?_
            | (refine Go.Shr.wpAnyF_take 13 (oi := { dst := some 40, op := Go.Op.move (Go.Operand.tmp 2), type := 3, pos := "ref.go:38", after := #[{ on := 8, ground := Go.Ground.guard }], guard := some (8, false) }) (v := ?g10rv14) rfl (by kernel_rfl) (fun _ _ _ h => h) (by assumption) (by rfl) ?g10ry14 ?g10rr14
               case g10ry14 => intro wS hSw; (obtain ⟨g2, g3⟩ := hSw); (have z0 : wS.cell? ⟨w.heap.size, 0, none⟩ = some (.int .i64 t.n) := g3.cell 0); (have z1 : wS.cell? ⟨w.heap.size, 1, none⟩ = some (.string t.s) := g3.cell 1); (have z2 : wS.cell? ⟨w.heap.size, 2, none⟩ = some (.slice a t.kids.length cap) := g3.cell 2); go_simp; try with_reducible rfl)
          try simp only [Act.put, List.setIfInBounds_toArray, List.set_cons_zero, List.set_cons_succ]
          first
            | refine Go.Shr.wpAnyF_skip 14 (oi := { dst := some 41, op := Go.Op.indexAddr 25 (Go.Operand.tmp 39) (Go.Operand.tmp 40), type := 0, pos := "ref.go:38", after := #[{ on := 12, ground := Go.Ground.data }, { on := 13, ground := Go.Ground.data }, { on := 8, ground := Go.Ground.guard }], guard := some (8, false) }) rfl (by kernel_rfl) (fun _ _ _ h => h) (by assumption) (by rfl) ?_
            | (refine Go.Shr.wpAnyF_take 14 (oi := { dst := some 41, op := Go.Op.indexAddr 25 (Go.Operand.tmp 39) (Go.Operand.tmp 40), type := 0, pos := "ref.go:38", after := #[{ on := 12, ground := Go.Ground.data }, { on := 13, ground := Go.Ground.data }, { on := 8, ground := Go.Ground.guard }], guard := some (8, false) }) (v := ?g10rv15) rfl (by kernel_rfl) (fun _ _ _ h => h) (by assumption) (by rfl) ?g10ry15 ?g10rr15
               case g10ry15 => intro wS hSw; (obtain ⟨g2, g3⟩ := hSw); (have z0 : wS.cell? ⟨w.heap.size, 0, none⟩ = some (.int .i64 t.n) := g3.cell 0); (have z1 : wS.cell? ⟨w.heap.size, 1, none⟩ = some (.string t.s) := g3.cell 1); (have z2 : wS.cell? ⟨w.heap.size, 2, none⟩ = some (.slice a t.kids.length cap) := g3.cell 2); go_simp; try with_reducible rfl)
          try simp only [Act.put, List.setIfInBounds_toArray, List.set_cons_zero, List.set_cons_succ]
          first
            | refine Go.Shr.wpAnyF_skip 15 (oi := { dst := some 42, op := Go.Op.fieldAddr 40 (Go.Operand.tmp 41) 3, type := 0, pos := "ref.go:38", after := #[{ on := 14, ground := Go.Ground.data }, { on := 8, ground := Go.Ground.guard }], guard := some (8, false) }) rfl (by kernel_rfl) (fun _ _ _ h => h) (by assumption) (by rfl) ?_
            | (refine Go.Shr.wpAnyF_take 15 (oi := { dst := some 42, op := Go.Op.fieldAddr 40 (Go.Operand.tmp 41) 3, type := 0, pos := "ref.go:38", after := #[{ on := 14, ground := Go.Ground.data }, { on := 8, ground := Go.Ground.guard }], guard := some (8, false) }) (v := ?g10rv16) rfl (by kernel_rfl) (fun _ _ _ h => h) (by assumption) (by rfl) ?g10ry16 ?g10rr16
               case g10ry16 => intro wS hSw; (obtain ⟨g2, g3⟩ := hSw); (have z0 : wS.cell? ⟨w.heap.size, 0, none⟩ = some (.int .i64 t.n) := g3.cell 0); (have z1 : wS.cell? ⟨w.heap.size, 1, none⟩ = some (.string t.s) := g3.cell 1); (have z2 : wS.cell? ⟨w.heap.size, 2, none⟩ = some (.slice a t.kids.length cap) := g3.cell 2); go_simp; try with_reducible rfl)
          try simp only [Act.put, List.setIfInBounds_toArray, List.set_cons_zero, List.set_cons_succ]
          first
            | refine Go.Shr.wpAnyF_skip 16 (oi := { dst := some 43, op := Go.Op.load 3 (Go.Operand.tmp 42), type := 3, pos := "ref.go:38", after := #[{ on := 15, ground := Go.Ground.data }, { on := 8, ground := Go.Ground.guard }], guard := some (8, false) }) rfl (by kernel_rfl) (fun _ _ _ h => h) (by assumption) (by rfl) ?_
            | (refine Go.Shr.wpAnyF_take 16 (oi := { dst := some 43, op := Go.Op.load 3 (Go.Operand.tmp 42), type := 3, pos := "ref.go:38", after := #[{ on := 15, ground := Go.Ground.data }, { on := 8, ground := Go.Ground.guard }], guard := some (8, false) }) (v := ?g10rv17) rfl (by kernel_rfl) (fun _ _ _ h => h) (by assumption) (by rfl) ?g10ry17 ?g10rr17
               case g10ry17 => intro wS hSw; (obtain ⟨g2, g3⟩ := hSw); (have z0 : wS.cell? ⟨w.heap.size, 0, none⟩ = some (.int .i64 t.n) := g3.cell 0); (have z1 : wS.cell? ⟨w.heap.size, 1, none⟩ = some (.string t.s) := g3.cell 1); (have z2 : wS.cell? ⟨w.heap.size, 2, none⟩ = some (.slice a t.kids.length cap) := g3.cell 2); go_simp; try with_reducible rfl)
          try simp only [Act.put, List.setIfInBounds_toArray, List.set_cons_zero, List.set_cons_succ]
          first
            | refine Go.Shr.wpAnyF_skip 17 (oi := { dst := some 44, op := Go.Op.binOp Go.BinOp.neq 3 (Go.Operand.tmp 38) (Go.Operand.tmp 43) 3, type := 4, pos := "ref.go:38", after := #[{ on := 11, ground := Go.Ground.data }, { on := 16, ground := Go.Ground.data }, { on := 8, ground := Go.Ground.guard }], guard := some (8, false) }) rfl (by kernel_rfl) (fun _ _ _ h => h) (by assumption) (by rfl) ?_
            | (refine Go.Shr.wpAnyF_take 17 (oi := { dst := some 44, op := Go.Op.binOp Go.BinOp.neq 3 (Go.Operand.tmp 38) (Go.Operand.tmp 43) 3, type := 4, pos := "ref.go:38", after := #[{ on := 11, ground := Go.Ground.data }, { on := 16, ground := Go.Ground.data }, { on := 8, ground := Go.Ground.guard }], guard := some (8, false) }) (v := ?g10rv18) rfl (by kernel_rfl) (fun _ _ _ h => h) (by assumption) (by rfl) ?g10ry18 ?g10rr18
               case g10ry18 => intro wS hSw; (obtain ⟨g2, g3⟩ := hSw); (have z0 : wS.cell? ⟨w.heap.size, 0, none⟩ = some (.int .i64 t.n) := g3.cell 0); (have z1 : wS.cell? ⟨w.heap.size, 1, none⟩ = some (.string t.s) := g3.cell 1); (have z2 : wS.cell? ⟨w.heap.size, 2, none⟩ = some (.slice a t.kids.length cap) := g3.cell 2); go_simp; try with_reducible rfl)
          try simp only [Act.put, List.setIfInBounds_toArray, List.set_cons_zero, List.set_cons_succ]
          refine Go.Shr.wpAnyF_take 18 (oi := { dst := some 45, op := Go.Op.pick (Go.Operand.tmp 35) (Go.Operand.const (Go.Value.bool true)) (Go.Operand.tmp 44), type := 4, pos := "ref.go:38", after := #[{ on := 8, ground := Go.Ground.data }, { on := 17, ground := Go.Ground.data }], guard := none }) (v := ?g10rv19) rfl (by kernel_rfl) (fun _ _ _ h => h) (by assumption) (by rfl) ?g10ry19 ?g10rr19
          case g10ry19 => intro wS hSw; (obtain ⟨g2, g3⟩ := hSw); (have z0 : wS.cell? ⟨w.heap.size, 0, none⟩ = some (.int .i64 t.n) := g3.cell 0); (have z1 : wS.cell? ⟨w.heap.size, 1, none⟩ = some (.string t.s) := g3.cell 1); (have z2 : wS.cell? ⟨w.heap.size, 2, none⟩ = some (.slice a t.kids.length cap) := g3.cell 2); go_simp; try with_reducible rfl
          try simp only [Act.put, List.setIfInBounds_toArray, List.set_cons_zero, List.set_cons_succ]
          refine Go.Shr.wpAnyF_done (by kernel_rfl) ?_
          clear hnb hsb' hmb p1 f2 f3
          have HBX := Lib.hid hbx.drew
          have HZ2 : Hid (wx.drew.cell? ⟨w.heap.size, 2, none⟩ = some (.slice a t.kids.length cap)) := Lib.hid (r5.drew.cell 2)
          clear hbx r5 hHeld
          go_wp2_with fail
          go_loopw [9, 10] (fun nv iv wr => ∃ (jn ji : Nat), nv = .int .i64 (jn : Int) ∧ iv = .int .i64 (ji : Int) ∧ ji ≤ l.length ∧ jn ≤ t.kids.length ∧ Hid (rest (par l) i ji = js.drop jn) ∧ Hid (fitT l (KF l) t i = fitK l (KF l) (t.kids.drop jn) (js.drop jn)) ∧ Hid (Below w.heap.size w wr) ∧ Hid (wr.cell? ⟨w.heap.size, 2, none⟩ = some (.slice a t.kids.length cap))) (fun _ iv _ => l.length - (intOf iv).toNat)
          case atStart => exact ⟨0, i + 1, rfl, by go_num, hi, Nat.zero_le _, Lib.hid HJS.out, HRX, HBX, HZ2⟩
          case round =>
            clear HRX HJS HBX HZ2
            obtain ⟨jn, ji, rfl, rfl, hji, hjn, HRE, HE, HB, HZ⟩ := hrel
            have z2 := HZ.out
            by_cases hlt : ji < l.length
            · have hjP : ji < (par l).length := by rw [par_length]; exact hlt
              obtain ⟨pb, poff, rfl, hpb, hpc⟩ := HP.out.pos (by omega)
              have c0 := cb HB.out (hpc _ _ (ints_get (par l) ji hjP))
              have hbd := par_bd l ji hjP
              clear hpc
              by_cases hp : (par l)[ji] = (i : Int)
              · have hry := rest_yes hjP hp
                rw [HRE.out] at hry
                obtain ⟨hjl, hjj, hre2⟩ := drop_cons hry
                have hmk : jn < t.kids.length := by have := HM.out; omega
                have HND := Lib.hid (fitK_drop l (KF l) t.kids js jn hmk hjl)
                rw [hjj] at HND
                obtain ⟨xb, xoff, rfl, hxb, hxc⟩ := HSL.out.pos (by omega)
                obtain ⟨la, lcap, ys, g0, hys, hrow⟩ := HK.out.get jn hmk
                replace g0 := cb HB.out (hxc _ _ g0)
                have hmem : ∀ y ∈ t.kids[jn], y.size < N := fun y hy => by have := kid_size (List.getElem_mem hmk) hy; omega
                have hmy := Nat.le_trans hys.le hys.max
                unfold maxLen at hmy
                have hf1 := (fls_get l ji hlt).2.1
                replace hf1 := cb HB.out (HSC.out _ _ hf1)
                rw [← Nat.add_assoc] at hf1
                have HFA : Hid (fitA l (KF l) t.kids[jn] (ji : Int) = if repT l[ji].rep t.kids[jn].length ≠ 0 then repT l[ji].rep t.kids[jn].length else fitX l (KF l) t.kids[jn] (ji : Int)) := Lib.hid (by
                  have h : flAt l (ji : Int) = l[ji] := by simp [flAt, hlt]
                  rw [fitA, h])
                generalize t.kids[jn] = x at *
                generalize l[ji].rep = rp at *
                rw [hp] at c0 hbd
                have HYS := Lib.hid hys; have HROW := Lib.hid hrow; have HMEM := Lib.hid hmem; have HRE2 := Lib.hid hre2
                clear hxc hys hrow hmem hre2 hry hjj hp
                go_upto_block 2 with fail
                go_cut [12] from 67 to 95 (fun v12 wc => Hid (repT rp x.length = 0) ∧ wr = wc)
                case first =>
                  have hE4 : ∀ v : Int, repT rp x.length = v → v ≠ 0 → fitT l (KF l) t i = v := fun v h h0 => by
                    have h1 : fitA l (KF l) x (ji : Int) = v := by rw [HFA.out, h, if_pos h0]
                    rw [HE.out, HND.out, h1, if_pos h0]
                  have HE4 := Lib.hid hE4
                  clear hE4
                  by_cases h2 : rp = 2
                  · by_cases h50 : 50 < x.length
                    · have H4 := Lib.hid (HE4.out 4 (by subst h2; unfold repT; rw [if_neg (by omega), if_pos h50]) (by decide))
                      subst h2
                      go_wp2_with fail
                      go_ret
                      exact ⟨ret_i H4.out.symm, HB.out⟩
                    · have H0 : Hid (repT rp x.length = 0) := Lib.hid (by subst h2; unfold repT; rw [if_neg (by omega), if_neg h50])
                      subst h2
                      go_wp2_with fail
                      go_meet
                      case rel => exact ⟨H0, rfl⟩
                  · have hb1 : (rp != 2) = true := by simp [h2]
                    have hb2 : (rp == 2) = false := beq_eq_false_iff_ne.2 h2
                    by_cases h1 : 1 < x.length
                    · have H4 := Lib.hid (HE4.out 13 (by unfold repT; rw [if_pos (.inl ⟨h2, h1⟩)]) (by decide))
                      clear h2
                      go_wp2_with fail
                      go_ret
                      exact ⟨ret_i H4.out.symm, HB.out⟩
                    · by_cases h0 : rp = 0
                      · by_cases hx0 : x.length = 0
                        · have H4 := Lib.hid (HE4.out 13 (by unfold repT; rw [if_pos (.inr ⟨h0, hx0⟩)]) (by decide))
                          have hl1 : ((x.length : Int) != 1) = true := by simp [hx0]
                          have hb3 : (rp == 0) = true := beq_iff_eq.2 h0
                          clear h2 h0 hx0
                          go_wp2_with fail
                          go_ret
                          exact ⟨ret_i H4.out.symm, HB.out⟩
                        · have H0 : Hid (repT rp x.length = 0) := Lib.hid (by unfold repT; rw [if_neg (by omega), if_neg (by omega)])
                          have hl1 : ((x.length : Int) != 1) = false := by simp; omega
                          have hb3 : (rp == 0) = true := beq_iff_eq.2 h0
                          have hx50 : x.length ≤ 50 := by omega
                          clear h2 h0 hx0
                          go_wp2_with fail
                          go_meet
                          case rel => exact ⟨H0, rfl⟩
                      · have H0 : Hid (repT rp x.length = 0) := Lib.hid (by unfold repT; rw [if_neg (by omega), if_neg (by omega)])
                        have hb3 : (rp == 0) = false := beq_eq_false_iff_ne.2 h0
                        have hx50 : x.length ≤ 50 := by omega
                        clear h2 h0
                        go_wp2_with fail
                        go_meet
                        case rel => exact ⟨H0, rfl⟩
                case rest =>
                  obtain ⟨H0, rfl⟩ := hcut
                  have HE2 : Hid (fitT l (KF l) t i = if fitX l (KF l) (x.drop 0) (ji : Int) ≠ 0 then fitX l (KF l) (x.drop 0) (ji : Int) else fitK l (KF l) (t.kids.drop (jn + 1)) (js.drop (jn + 1))) := Lib.hid (by
                    rw [HE.out, HND.out, HFA.out, H0.out]; rfl)
                  clear HE HND HFA H0 c0 hf1 g0 z2
                  go_wp2_with fail
                  obtain ⟨wo, rfl⟩ : ∃ wo : World, wo = wr := ⟨_, rfl⟩
                  go_loopw [12] (fun kv wr => ∃ k : Nat, kv = .int .i64 (k : Int) ∧ k ≤ x.length ∧ Hid (fitT l (KF l) t i = if fitX l (KF l) (x.drop k) (ji : Int) ≠ 0 then fitX l (KF l) (x.drop k) (ji : Int) else fitK l (KF l) (t.kids.drop (jn + 1)) (js.drop (jn + 1))) ∧ Hid (Below w.heap.size w wr) ∧ Hid (wr.cell? ⟨w.heap.size, 2, none⟩ = some (.slice (some ⟨xb, xoff, none⟩) t.kids.length cap))) (fun kv _ => x.length - (intOf kv).toNat)
                  case atStart => exact ⟨0, rfl, Nat.zero_le _, HE2, HB, HZ⟩
                  case round =>
                    clear HE2
                    obtain ⟨k, rfl, hk, HE3, HB3, HZ3⟩ := hrel
                    by_cases hkl : k < x.length
                    · obtain ⟨yb, yoff, rfl, hyb, hyc⟩ := HYS.out.pos (by omega)
                      obtain ⟨ka, _, kcap, kxs, v0, v1, v2, rfl, hks, hsl, hkid⟩ := HROW.out.get k hkl
                      have hTk : TrAt w x[k] [.int .i64 x[k].n, .string x[k].s, .slice ka x[k].kids.length kcap] := TrAt.mk' hks hsl hkid
                      replace v0 := cb HB3.out (hyc _ _ v0); replace v1 := cb HB3.out (hyc _ _ v1); replace v2 := cb HB3.out (hyc _ _ v2)
                      rw [← Nat.add_assoc] at v1 v2
                      have HDL := Lib.hid (fitX_drop l (KF l) x (ji : Int) k hkl)
                      have hsz3 : x[k].size < N := HMEM.out _ (List.getElem_mem hkl)
                      have HT2 := Lib.hid hTk
                      generalize x[k] = q at *
                      clear hyc hks hsl hkid hTk
                      go_wp2_with fail
                      refine (HIH.out q hsz3 ji hlt (some ⟨sb, soff, none⟩) (some ⟨pb, poff, none⟩) sc pc ka kcap wr (slb HS.out HB3.out) (slb HP.out HB3.out) (TrAt.below HB3.out _ _ HT2.out)).mono ?_
                      rintro e w4 ⟨rfl, hb4⟩
                      have HB5 := Lib.hid (bt HB3.out hb4)
                      have HZ5 := Lib.hid (cb hb4 HZ3.out)
                      clear hb4 v0 v1 v2
                      generalize fitT l (KF l) q (ji : Int) = ft at *
                      by_cases hz : ft = 0
                      · have HE5 : Hid (fitT l (KF l) t i = if fitX l (KF l) (x.drop (k + 1)) (ji : Int) ≠ 0 then fitX l (KF l) (x.drop (k + 1)) (ji : Int) else fitK l (KF l) (t.kids.drop (jn + 1)) (js.drop (jn + 1))) := Lib.hid (by
                          have e : fitX l (KF l) (x.drop k) (ji : Int) = fitX l (KF l) (x.drop (k + 1)) (ji : Int) := by rw [HDL.out, if_neg (fun h => h hz)]
                          rw [HE3.out, e])
                        clear HE3 HDL
                        subst hz
                        go_wp2_with fail
                        go_roundw
                        case rel => exact ⟨k + 1, by go_num, by omega, HE5, HB5, HZ5⟩
                        case measure => simp [intOf]; omega
                      · have HE5 : Hid (fitT l (KF l) t i = ft) := Lib.hid (by
                          have e : fitX l (KF l) (x.drop k) (ji : Int) = ft := by rw [HDL.out, if_pos hz]
                          rw [HE3.out, e, if_pos hz])
                        have hb1 : (ft != 0) = true := by simp [hz]
                        have hb2 : (ft == 0) = false := beq_eq_false_iff_ne.2 hz
                        clear HE3 HDL hz
                        go_wp2_with fail
                        go_ret
                        exact ⟨ret_i HE5.out.symm, HB5.out⟩
                    · obtain rfl : k = x.length := by omega
                      have HE5 : Hid (fitT l (KF l) t i = fitK l (KF l) (t.kids.drop (jn + 1)) (js.drop (jn + 1))) := Lib.hid (by
                        rw [HE3.out, List.drop_length]; simp [fitX])
                      clear HE3 hk
                      go_wp2_with fail
                      go_roundw
                      case rel => exact ⟨jn + 1, ji + 1, by go_num, by go_num, by omega, by omega, Lib.hid HRE2.out.symm, HE5, HB3, HZ3⟩
                      case measure => simp [intOf]; omega
              · have HRN : Hid (rest (par l) i (ji + 1) = js.drop jn) := Lib.hid (by rw [← rest_no hjP hp]; exact HRE.out)
                have hpb1 : ((par l)[ji] != (i : Int)) = true := by simp [hp]
                have hpb2 : ((par l)[ji] == (i : Int)) = false := beq_eq_false_iff_ne.2 hp
                generalize (par l)[ji] = y at *
                clear hp
                go_wp2_with fail
                go_roundw
                case rel => exact ⟨jn, ji + 1, rfl, by go_num, by omega, hjn, HRN, HE, HB, HZ⟩
                case measure => simp [intOf]; omega
            · obtain rfl : ji = l.length := by omega
              have hnil : js.drop jn = [] := by
                rw [← HRE.out, rest_end (by rw [par_length]; exact Nat.le_refl _)]
              have hjl : js.length ≤ jn := by
                have := congrArg List.length hnil; simp at this; omega
              have HE2 : Hid (fitT l (KF l) t i = 0) := Lib.hid (by
                rw [HE.out, List.drop_eq_nil_of_le (by have := HM.out; omega)]; simp [fitK])
              clear hnil
              go_wp2_with fail
              go_ret
              exact ⟨ret_i HE2.out.symm, HB.out⟩
        · have H13 : Hid (fitT l (KF l) t i = 13) := Lib.hid (by rw [HR2.out, if_pos (.inr (.inr hm))])
          have hnb : (t.n != 0) = false := by simp [hn0]
          have hsb' : (!t.s.toList.isEmpty) = false := by rw [hs0]; rfl
          have hmb : ((t.kids.length : Int) != (js.length : Int)) = true := by simp; omega
          have hmc : ((t.kids.length : Int) == (js.length : Int)) = false := beq_eq_false_iff_ne.2 (by omega)
          clear HR2 hn0 hs0 hm
          go_enter Try.func43, Try.ntmps43
          go_wp2_with fail
          have hbx := ba (b0 w) (.cells #[.int .i64 t.n, .string t.s, .slice a t.kids.length cap] 48)
          have r5 := Rw.new w #[.int .i64 t.n, .string t.s, .slice a t.kids.length cap] 48
          generalize w.alloc (.cells #[.int .i64 t.n, .string t.s, .slice a t.kids.length cap] 48) = wx at hbx r5 ⊢
          have p1 := cb hbx f3
          have hi0 : (0 : Int) ≤ (i : Int) := by omega
          have hi1 : (i : Int) < (l.length : Int) := by omega
          refine Go.Shr.wp_region_F (fun w' => w'.cell? ⟨sb, soff + i * 4 + 3, none⟩ = some (.int .i64 (js.length : Int)) ∧ Rw w' w.heap.size #[.int .i64 t.n, .string t.s, .slice a t.kids.length cap] 48) [] (by kernel_rfl) ?g11rgS (fun hHeld => ?g11rgR)
          case g11rgS => (try dsimp only); (exact ⟨p1, r5.drew⟩)
          try dsimp only at hHeld
          refine Go.Shr.wpAnyF_take 0 (oi := { dst := some 27, op := Go.Op.fieldAddr 48 (Go.Operand.tmp 7) 0, type := 0, pos := "ref.go:38", after := #[], guard := none }) (v := ?g11rv1) rfl (by kernel_rfl) (fun _ _ _ h => h) (by assumption) (by rfl) ?g11ry1 ?g11rr1
          case g11ry1 => intro wS hSw; (obtain ⟨g2, g3⟩ := hSw); (have z0 : wS.cell? ⟨w.heap.size, 0, none⟩ = some (.int .i64 t.n) := g3.cell 0); (have z1 : wS.cell? ⟨w.heap.size, 1, none⟩ = some (.string t.s) := g3.cell 1); (have z2 : wS.cell? ⟨w.heap.size, 2, none⟩ = some (.slice a t.kids.length cap) := g3.cell 2); go_simp; try with_reducible rfl
          try simp only [Act.put, List.setIfInBounds_toArray, List.set_cons_zero, List.set_cons_succ]
          refine Go.Shr.wpAnyF_take 1 (oi := { dst := some 28, op := Go.Op.load 3 (Go.Operand.tmp 27), type := 3, pos := "ref.go:38", after := #[{ on := 0, ground := Go.Ground.data }], guard := none }) (v := ?g11rv2) rfl (by kernel_rfl) (fun _ _ _ h => h) (by assumption) (by rfl) ?g11ry2 ?g11rr2
          case g11ry2 => intro wS hSw; (obtain ⟨g2, g3⟩ := hSw); (have z0 : wS.cell? ⟨w.heap.size, 0, none⟩ = some (.int .i64 t.n) := g3.cell 0); (have z1 : wS.cell? ⟨w.heap.size, 1, none⟩ = some (.string t.s) := g3.cell 1); (have z2 : wS.cell? ⟨w.heap.size, 2, none⟩ = some (.slice a t.kids.length cap) := g3.cell 2); go_simp; try with_reducible rfl
          try simp only [Act.put, List.setIfInBounds_toArray, List.set_cons_zero, List.set_cons_succ]
          refine Go.Shr.wpAnyF_take 2 (oi := { dst := some 29, op := Go.Op.binOp Go.BinOp.neq 3 (Go.Operand.tmp 28) (Go.Operand.const (Go.Value.int Go.IntKind.i64 0)) 3, type := 4, pos := "ref.go:38", after := #[{ on := 1, ground := Go.Ground.data }], guard := none }) (v := ?g11rv3) rfl (by kernel_rfl) (fun _ _ _ h => h) (by assumption) (by rfl) ?g11ry3 ?g11rr3
          case g11ry3 => intro wS hSw; (obtain ⟨g2, g3⟩ := hSw); (have z0 : wS.cell? ⟨w.heap.size, 0, none⟩ = some (.int .i64 t.n) := g3.cell 0); (have z1 : wS.cell? ⟨w.heap.size, 1, none⟩ = some (.string t.s) := g3.cell 1); (have z2 : wS.cell? ⟨w.heap.size, 2, none⟩ = some (.slice a t.kids.length cap) := g3.cell 2); go_simp; try with_reducible rfl
          try simp only [Act.put, List.setIfInBounds_toArray, List.set_cons_zero, List.set_cons_succ]
          refine Go.Shr.wpAnyF_take 3 (oi := { dst := some 30, op := Go.Op.move (Go.Operand.tmp 29), type := 4, pos := "ref.go:38", after := #[{ on := 2, ground := Go.Ground.data }], guard := none }) (v := ?g11rv4) rfl (by kernel_rfl) (fun _ _ _ h => h) (by assumption) (by rfl) ?g11ry4 ?g11rr4
          case g11ry4 => intro wS hSw; (obtain ⟨g2, g3⟩ := hSw); (have z0 : wS.cell? ⟨w.heap.size, 0, none⟩ = some (.int .i64 t.n) := g3.cell 0); (have z1 : wS.cell? ⟨w.heap.size, 1, none⟩ = some (.string t.s) := g3.cell 1); (have z2 : wS.cell? ⟨w.heap.size, 2, none⟩ = some (.slice a t.kids.length cap) := g3.cell 2); go_simp; try with_reducible rfl
          try simp only [Act.put, List.setIfInBounds_toArray, List.set_cons_zero, List.set_cons_succ]
          first
            | refine Go.Shr.wpAnyF_skip 4 (oi := { dst := some 31, op := Go.Op.fieldAddr 48 (Go.Operand.tmp 7) 1, type := 0, pos := "ref.go:38", after := #[{ on := 3, ground := Go.Ground.guard }], guard := some (3, false) }) rfl (by kernel_rfl) (fun _ _ _ h => h) (by assumption) (by rfl) ?_
            | (refine Go.Shr.wpAnyF_take 4 (oi := { dst := some 31, op := Go.Op.fieldAddr 48 (Go.Operand.tmp 7) 1, type := 0, pos := "ref.go:38", after := #[{ on := 3, ground := Go.Ground.guard }], guard := some (3, false) }) (v := ?g11rv5) rfl (by kernel_rfl) (fun _ _ _ h => h) (by assumption) (by rfl) ?g11ry5 ?g11rr5
               case g11ry5 => intro wS hSw; (obtain ⟨g2, g3⟩ := hSw); (have z0 : wS.cell? ⟨w.heap.size, 0, none⟩ = some (.int .i64 t.n) := g3.cell 0); (have z1 : wS.cell? ⟨w.heap.size, 1, none⟩ = some (.string t.s) := g3.cell 1); (have z2 : wS.cell? ⟨w.heap.size, 2, none⟩ = some (.slice a t.kids.length cap) := g3.cell 2); go_simp; try with_reducible rfl)
          try simp only [Act.put, List.setIfInBounds_toArray, List.set_cons_zero, List.set_cons_succ]
          first
            | refine Go.Shr.wpAnyF_skip 5 (oi := { dst := some 32, op := Go.Op.load 9 (Go.Operand.tmp 31), type := 9, pos := "ref.go:38", after := #[{ on := 4, ground := Go.Ground.data }, { on := 3, ground := Go.Ground.guard }], guard := some (3, false) }) rfl (by kernel_rfl) (fun _ _ _ h => h) (by assumption) (by rfl) ?_
            | (refine Go.Shr.wpAnyF_take 5 (oi := { dst := some 32, op := Go.Op.load 9 (Go.Operand.tmp 31), type := 9, pos := "ref.go:38", after := #[{ on := 4, ground := Go.Ground.data }, { on := 3, ground := Go.Ground.guard }], guard := some (3, false) }) (v := ?g11rv6) rfl (by kernel_rfl) (fun _ _ _ h => h) (by assumption) (by rfl) ?g11ry6 ?g11rr6
               case g11ry6 => intro wS hSw; (obtain ⟨g2, g3⟩ := hSw); (have z0 : wS.cell? ⟨w.heap.size, 0, none⟩ = some (.int .i64 t.n) := g3.cell 0); (have z1 : wS.cell? ⟨w.heap.size, 1, none⟩ = some (.string t.s) := g3.cell 1); (have z2 : wS.cell? ⟨w.heap.size, 2, none⟩ = some (.slice a t.kids.length cap) := g3.cell 2); go_simp; try with_reducible rfl)
          try simp only [Act.put, List.setIfInBounds_toArray, List.set_cons_zero, List.set_cons_succ]
          first
            | refine Go.Shr.wpAnyF_skip 6 (oi := { dst := some 33, op := Go.Op.binOp Go.BinOp.neq 9 (Go.Operand.tmp 32) (Go.Operand.const (Go.Value.string { data := #[] })) 9, type := 4, pos := "ref.go:38", after := #[{ on := 5, ground := Go.Ground.data }, { on := 3, ground := Go.Ground.guard }], guard := some (3, false) }) rfl (by kernel_rfl) (fun _ _ _ h => h) (by assumption) (by rfl) ?_
            | (refine Go.Shr.wpAnyF_take 6 (oi := { dst := some 33, op := Go.Op.binOp Go.BinOp.neq 9 (Go.Operand.tmp 32) (Go.Operand.const (Go.Value.string { data := #[] })) 9, type := 4, pos := "ref.go:38", after := #[{ on := 5, ground := Go.Ground.data }, { on := 3, ground := Go.Ground.guard }], guard := some (3, false) }) (v := ?g11rv7) rfl (by kernel_rfl) (fun _ _ _ h => h) (by assumption) (by rfl) ?g11ry7 ?g11rr7
               case g11ry7 => intro wS hSw; (obtain ⟨g2, g3⟩ := hSw); (have z0 : wS.cell? ⟨w.heap.size, 0, none⟩ = some (.int .i64 t.n) := g3.cell 0); (have z1 : wS.cell? ⟨w.heap.size, 1, none⟩ = some (.string t.s) := g3.cell 1); (have z2 : wS.cell? ⟨w.heap.size, 2, none⟩ = some (.slice a t.kids.length cap) := g3.cell 2); go_simp; try with_reducible rfl)
          try simp only [Act.put, List.setIfInBounds_toArray, List.set_cons_zero, List.set_cons_succ]
          refine Go.Shr.wpAnyF_take 7 (oi := { dst := some 34, op := Go.Op.pick (Go.Operand.tmp 30) (Go.Operand.const (Go.Value.bool true)) (Go.Operand.tmp 33), type := 4, pos := "ref.go:38", after := #[{ on := 3, ground := Go.Ground.data }, { on := 6, ground := Go.Ground.data }], guard := none }) (v := ?g11rv8) rfl (by kernel_rfl) (fun _ _ _ h => h) (by assumption) (by rfl) ?g11ry8 ?g11rr8
          case g11ry8 => intro wS hSw; (obtain ⟨g2, g3⟩ := hSw); (have z0 : wS.cell? ⟨w.heap.size, 0, none⟩ = some (.int .i64 t.n) := g3.cell 0); (have z1 : wS.cell? ⟨w.heap.size, 1, none⟩ = some (.string t.s) := g3.cell 1); (have z2 : wS.cell? ⟨w.heap.size, 2, none⟩ = some (.slice a t.kids.length cap) := g3.cell 2); go_simp; try with_reducible rfl
          try simp only [Act.put, List.setIfInBounds_toArray, List.set_cons_zero, List.set_cons_succ]
          refine Go.Shr.wpAnyF_take 8 (oi := { dst := some 35, op := Go.Op.move (Go.Operand.tmp 34), type := 4, pos := "ref.go:38", after := #[{ on := 7, ground := Go.Ground.data }, { on := 3, ground := Go.Ground.chain }], guard := none }) (v := ?g11rv9) rfl (by kernel_rfl) (fun _ _ _ h => h) (by assumption) (by rfl) ?g11ry9 ?g11rr9
          case g11ry9 => intro wS hSw; (obtain ⟨g2, g3⟩ := hSw); (have z0 : wS.cell? ⟨w.heap.size, 0, none⟩ = some (.int .i64 t.n) := g3.cell 0); (have z1 : wS.cell? ⟨w.heap.size, 1, none⟩ = some (.string t.s) := g3.cell 1); (have z2 : wS.cell? ⟨w.heap.size, 2, none⟩ = some (.slice a t.kids.length cap) := g3.cell 2); go_simp; try with_reducible rfl
          try simp only [Act.put, List.setIfInBounds_toArray, List.set_cons_zero, List.set_cons_succ]
          first
            | refine Go.Shr.wpAnyF_skip 9 (oi := { dst := some 36, op := Go.Op.fieldAddr 48 (Go.Operand.tmp 7) 2, type := 0, pos := "ref.go:38", after := #[{ on := 8, ground := Go.Ground.guard }], guard := some (8, false) }) rfl (by kernel_rfl) (fun _ _ _ h => h) (by assumption) (by rfl) ?_
            | (refine Go.Shr.wpAnyF_take 9 (oi := { dst := some 36, op := Go.Op.fieldAddr 48 (Go.Operand.tmp 7) 2, type := 0, pos := "ref.go:38", after := #[{ on := 8, ground := Go.Ground.guard }], guard := some (8, false) }) (v := ?g11rv10) rfl (by kernel_rfl) (fun _ _ _ h => h) (by assumption) (by rfl) ?g11ry10 ?g11rr10
               case g11ry10 => intro wS hSw; (obtain ⟨g2, g3⟩ := hSw); (have z0 : wS.cell? ⟨w.heap.size, 0, none⟩ = some (.int .i64 t.n) := g3.cell 0); (have z1 : wS.cell? ⟨w.heap.size, 1, none⟩ = some (.string t.s) := g3.cell 1); (have z2 : wS.cell? ⟨w.heap.size, 2, none⟩ = some (.slice a t.kids.length cap) := g3.cell 2); go_simp; try with_reducible rfl)
          try simp only [Act.put, List.setIfInBounds_toArray, List.set_cons_zero, List.set_cons_succ]
          first
            | refine Go.Shr.wpAnyF_skip 10 (oi := { dst := some 37, op := Go.Op.load 46 (Go.Operand.tmp 36), type := 46, pos := "ref.go:38", after := #[{ on := 9, ground := Go.Ground.data }, { on := 8, ground := Go.Ground.guard }], guard := some (8, false) }) rfl (by kernel_rfl) (fun _ _ _ h => h) (by assumption) (by rfl) ?_
            | (refine Go.Shr.wpAnyF_take 10 (oi := { dst := some 37, op := Go.Op.load 46 (Go.Operand.tmp 36), type := 46, pos := "ref.go:38", after := #[{ on := 9, ground := Go.Ground.data }, { on := 8, ground := Go.Ground.guard }], guard := some (8, false) }) (v := ?g11rv11) rfl (by kernel_rfl) (fun _ _ _ h => h) (by assumption) (by rfl) ?g11ry11 ?g11rr11
               case g11ry11 => intro wS hSw; (obtain ⟨g2, g3⟩ := hSw); (have z0 : wS.cell? ⟨w.heap.size, 0, none⟩ = some (.int .i64 t.n) := g3.cell 0); (have z1 : wS.cell? ⟨w.heap.size, 1, none⟩ = some (.string t.s) := g3.cell 1); (have z2 : wS.cell? ⟨w.heap.size, 2, none⟩ = some (.slice a t.kids.length cap) := g3.cell 2); go_simp; try with_reducible rfl)
          try simp only [Act.put, List.setIfInBounds_toArray, List.set_cons_zero, List.set_cons_succ]
          first
            | refine Go.Shr.wpAnyF_skip 11 (oi := { dst := some 38, op := Go.Op.call { callee := Go.Callee.builtin Go.Builtin.len, args := #[Go.Operand.tmp 37], argTypes := #[46] }, type := 3, pos := "ref.go:38", after := #[{ on := 10, ground := Go.Ground.data }, { on := 8, ground := Go.Ground.guard }], guard := some (8, false) }) rfl (by kernel_rfl) (fun _ _ _ h => h) (by assumption) (by rfl) ?_
            | (refine Go.Shr.wpAnyF_take 11 (oi := { dst := some 38, op := Go.Op.call { callee := Go.Callee.builtin Go.Builtin.len, args := #[Go.Operand.tmp 37], argTypes := #[46] }, type := 3, pos := "ref.go:38", after := #[{ on := 10, ground := Go.Ground.data }, { on := 8, ground := Go.Ground.guard }], guard := some (8, false) }) (v := ?g11rv12) rfl (by kernel_rfl) (fun _ _ _ h => h) (by assumption) (by rfl) ?g11ry12 ?g11rr12
               case g11ry12 => intro wS hSw; (obtain ⟨g2, g3⟩ := hSw); (have z0 : wS.cell? ⟨w.heap.size, 0, none⟩ = some (.int .i64 t.n) := g3.cell 0); (have z1 : wS.cell? ⟨w.heap.size, 1, none⟩ = some (.string t.s) := g3.cell 1); (have z2 : wS.cell? ⟨w.heap.size, 2, none⟩ = some (.slice a t.kids.length cap) := g3.cell 2); go_simp; try with_reducible rfl)
          try simp only [Act.put, List.setIfInBounds_toArray, List.set_cons_zero, List.set_cons_succ]
          first
            | refine Go.Shr.wpAnyF_skip 12 (oi := { dst := some 39, op := Go.Op.move (Go.Operand.tmp 0), type := 25, pos := "ref.go:38", after := #[{ on := 8, ground := Go.Ground.guard }], guard := some (8, false) }) rfl (by kernel_rfl) (fun _ _ _ h => h) (by assumption) (by rfl) ?_
            | (refine Go.Shr.wpAnyF_take 12 (oi := { dst := some 39, op := Go.Op.move (Go.Operand.tmp 0), type := 25, pos := "ref.go:38", after := #[{ on := 8, ground := Go.Ground.guard }], guard := some (8, false) }) (v := ?g11rv13) rfl (by kernel_rfl) (fun _ _ _ h => h) (by assumption) (by rfl) ?g11ry13 ?g11rr13
               case g11ry13 => intro wS hSw; (obtain ⟨g2, g3⟩ := hSw); (have z0 : wS.cell? ⟨w.heap.size, 0, none⟩ = some (.int .i64 t.n) := g3.cell 0); (have z1 : wS.cell? ⟨w.heap.size, 1, none⟩ = some (.string t.s) := g3.cell 1); (have z2 : wS.cell? ⟨w.heap.size, 2, none⟩ = some (.slice a t.kids.length cap) := g3.cell 2); go_simp; try with_reducible rfl)
          try simp only [Act.put, List.setIfInBounds_toArray, List.set_cons_zero, List.set_cons_succ]
          first
            | refine Go.Shr.wpAnyF_skip 13 (oi := { dst := some 40, op := Go.Op.move (Go.Operand.tmp 2), type := 3, pos := "ref.go:38", after := #[{ on := 8, ground := Go.Ground.guard }], guard := some (8, false) }) rfl (by kernel_rfl) (fun _ _ _ h => h) (by assumption) (by rfl) ?_
            | (refine Go.Shr.wpAnyF_take 13 (oi := { dst := some 40, op := Go.Op.move (Go.Operand.tmp 2), type := 3, pos := "ref.go:38", after := #[{ on := 8, ground := Go.Ground.guard }], guard := some (8, false) }) (v := ?g11rv14) rfl (by kernel_rfl) (fun _ _ _ h => h) (by assumption) (by rfl) ?g11ry14 ?g11rr14
               case g11ry14 => intro wS hSw; (obtain ⟨g2, g3⟩ := hSw); (have z0 : wS.cell? ⟨w.heap.size, 0, none⟩ = some (.int .i64 t.n) := g3.cell 0); (have z1 : wS.cell? ⟨w.heap.size, 1, none⟩ = some (.string t.s) := g3.cell 1); (have z2 : wS.cell? ⟨w.heap.size, 2, none⟩ = some (.slice a t.kids.length cap) := g3.cell 2); go_simp; try with_reducible rfl)
          try simp only [Act.put, List.setIfInBounds_toArray, List.set_cons_zero, List.set_cons_succ]
          first
            | refine Go.Shr.wpAnyF_skip 14 (oi := { dst := some 41, op := Go.Op.indexAddr 25 (Go.Operand.tmp 39) (Go.Operand.tmp 40), type := 0, pos := "ref.go:38", after := #[{ on := 12, ground := Go.Ground.data }, { on := 13, ground := Go.Ground.data }, { on := 8, ground := Go.Ground.guard }], guard := some (8, false) }) rfl (by kernel_rfl) (fun _ _ _ h => h) (by assumption) (by rfl) ?_
            | (refine Go.Shr.wpAnyF_take 14 (oi := { dst := some 41, op := Go.Op.indexAddr 25 (Go.Operand.tmp 39) (Go.Operand.tmp 40), type := 0, pos := "ref.go:38", after := #[{ on := 12, ground := Go.Ground.data }, { on := 13, ground := Go.Ground.data }, { on := 8, ground := Go.Ground.guard }], guard := some (8, false) }) (v := ?g11rv15) rfl (by kernel_rfl) (fun _ _ _ h => h) (by assumption) (by rfl) ?g11ry15 ?g11rr15
               case g11ry15 => intro wS hSw; (obtain ⟨g2, g3⟩ := hSw); (have z0 : wS.cell? ⟨w.heap.size, 0, none⟩ = some (.int .i64 t.n) := g3.cell 0); (have z1 : wS.cell? ⟨w.heap.size, 1, none⟩ = some (.string t.s) := g3.cell 1); (have z2 : wS.cell? ⟨w.heap.size, 2, none⟩ = some (.slice a t.kids.length cap) := g3.cell 2); go_simp; try with_reducible rfl)
          try simp only [Act.put, List.setIfInBounds_toArray, List.set_cons_zero, List.set_cons_succ]
          first
            | refine Go.Shr.wpAnyF_skip 15 (oi := { dst := some 42, op := Go.Op.fieldAddr 40 (Go.Operand.tmp 41) 3, type := 0, pos := "ref.go:38", after := #[{ on := 14, ground := Go.Ground.data }, { on := 8, ground := Go.Ground.guard }], guard := some (8, false) }) rfl (by kernel_rfl) (fun _ _ _ h => h) (by assumption) (by rfl) ?_
            | (refine Go.Shr.wpAnyF_take 15 (oi := { dst := some 42, op := Go.Op.fieldAddr 40 (Go.Operand.tmp 41) 3, type := 0, pos := "ref.go:38", after := #[{ on := 14, ground := Go.Ground.data }, { on := 8, ground := Go.Ground.guard }], guard := some (8, false) }) (v := ?g11rv16) rfl (by kernel_rfl) (fun _ _ _ h => h) (by assumption) (by rfl) ?g11ry16 ?g11rr16
               case g11ry16 => intro wS hSw; (obtain ⟨g2, g3⟩ := hSw); (have z0 : wS.cell? ⟨w.heap.size, 0, none⟩ = some (.int .i64 t.n) := g3.cell 0); (have z1 : wS.cell? ⟨w.heap.size, 1, none⟩ = some (.string t.s) := g3.cell 1); (have z2 : wS.cell? ⟨w.heap.size, 2, none⟩ = some (.slice a t.kids.length cap) := g3.cell 2); go_simp; try with_reducible rfl)
          try simp only [Act.put, List.setIfInBounds_toArray, List.set_cons_zero, List.set_cons_succ]
          first
            | refine Go.Shr.wpAnyF_skip 16 (oi := { dst := some 43, op := Go.Op.load 3 (Go.Operand.tmp 42), type := 3, pos := "ref.go:38", after := #[{ on := 15, ground := Go.Ground.data }, { on := 8, ground := Go.Ground.guard }], guard := some (8, false) }) rfl (by kernel_rfl) (fun _ _ _ h => h) (by assumption) (by rfl) ?_
            | (refine Go.Shr.wpAnyF_take 16 (oi := { dst := some 43, op := Go.Op.load 3 (Go.Operand.tmp 42), type := 3, pos := "ref.go:38", after := #[{ on := 15, ground := Go.Ground.data }, { on := 8, ground := Go.Ground.guard }], guard := some (8, false) }) (v := ?g11rv17) rfl (by kernel_rfl) (fun _ _ _ h => h) (by assumption) (by rfl) ?g11ry17 ?g11rr17
               case g11ry17 => intro wS hSw; (obtain ⟨g2, g3⟩ := hSw); (have z0 : wS.cell? ⟨w.heap.size, 0, none⟩ = some (.int .i64 t.n) := g3.cell 0); (have z1 : wS.cell? ⟨w.heap.size, 1, none⟩ = some (.string t.s) := g3.cell 1); (have z2 : wS.cell? ⟨w.heap.size, 2, none⟩ = some (.slice a t.kids.length cap) := g3.cell 2); go_simp; try with_reducible rfl)
          try simp only [Act.put, List.setIfInBounds_toArray, List.set_cons_zero, List.set_cons_succ]
          first
            | refine Go.Shr.wpAnyF_skip 17 (oi := { dst := some 44, op := Go.Op.binOp Go.BinOp.neq 3 (Go.Operand.tmp 38) (Go.Operand.tmp 43) 3, type := 4, pos := "ref.go:38", after := #[{ on := 11, ground := Go.Ground.data }, { on := 16, ground := Go.Ground.data }, { on := 8, ground := Go.Ground.guard }], guard := some (8, false) }) rfl (by kernel_rfl) (fun _ _ _ h => h) (by assumption) (by rfl) ?_
            | (refine Go.Shr.wpAnyF_take 17 (oi := { dst := some 44, op := Go.Op.binOp Go.BinOp.neq 3 (Go.Operand.tmp 38) (Go.Operand.tmp 43) 3, type := 4, pos := "ref.go:38", after := #[{ on := 11, ground := Go.Ground.data }, { on := 16, ground := Go.Ground.data }, { on := 8, ground := Go.Ground.guard }], guard := some (8, false) }) (v := ?g11rv18) rfl (by kernel_rfl) (fun _ _ _ h => h) (by assumption) (by rfl) ?g11ry18 ?g11rr18
               case g11ry18 => intro wS hSw; (obtain ⟨g2, g3⟩ := hSw); (have z0 : wS.cell? ⟨w.heap.size, 0, none⟩ = some (.int .i64 t.n) := g3.cell 0); (have z1 : wS.cell? ⟨w.heap.size, 1, none⟩ = some (.string t.s) := g3.cell 1); (have z2 : wS.cell? ⟨w.heap.size, 2, none⟩ = some (.slice a t.kids.length cap) := g3.cell 2); go_simp; try with_reducible rfl)
          try simp only [Act.put, List.setIfInBounds_toArray, List.set_cons_zero, List.set_cons_succ]
          refine Go.Shr.wpAnyF_take 18 (oi := { dst := some 45, op := Go.Op.pick (Go.Operand.tmp 35) (Go.Operand.const (Go.Value.bool true)) (Go.Operand.tmp 44), type := 4, pos := "ref.go:38", after := #[{ on := 8, ground := Go.Ground.data }, { on := 17, ground := Go.Ground.data }], guard := none }) (v := ?g11rv19) rfl (by kernel_rfl) (fun _ _ _ h => h) (by assumption) (by rfl) ?g11ry19 ?g11rr19
          case g11ry19 => intro wS hSw; (obtain ⟨g2, g3⟩ := hSw); (have z0 : wS.cell? ⟨w.heap.size, 0, none⟩ = some (.int .i64 t.n) := g3.cell 0); (have z1 : wS.cell? ⟨w.heap.size, 1, none⟩ = some (.string t.s) := g3.cell 1); (have z2 : wS.cell? ⟨w.heap.size, 2, none⟩ = some (.slice a t.kids.length cap) := g3.cell 2); go_simp; try with_reducible rfl
          try simp only [Act.put, List.setIfInBounds_toArray, List.set_cons_zero, List.set_cons_succ]
          refine Go.Shr.wpAnyF_done (by kernel_rfl) ?_
          go_wp2_with fail
          go_ret
          exact ⟨ret_i H13.out.symm, hbx.drew⟩
      · have H13 : Hid (fitT l (KF l) t i = 13) := Lib.hid (by rw [HR2.out, if_pos (.inr (.inl hs0))])
        have hnb : (t.n != 0) = false := by simp [hn0]
        have hsb' : (!t.s.toList.isEmpty) = true := by cases h : t.s.toList with | nil => exact absurd h hs0 | cons => rfl
        clear HR2 hn0 hs0
        go_enter Try.func43, Try.ntmps43
        go_wp2_with fail
        have hbx := ba (b0 w) (.cells #[.int .i64 t.n, .string t.s, .slice a t.kids.length cap] 48)
        have r5 := Rw.new w #[.int .i64 t.n, .string t.s, .slice a t.kids.length cap] 48
        generalize w.alloc (.cells #[.int .i64 t.n, .string t.s, .slice a t.kids.length cap] 48) = wx at hbx r5 ⊢
        have p1 := cb hbx f3
        have hi0 : (0 : Int) ≤ (i : Int) := by omega
        have hi1 : (i : Int) < (l.length : Int) := by omega
        refine Go.Shr.wp_region_F (fun w' => w'.cell? ⟨sb, soff + i * 4 + 3, none⟩ = some (.int .i64 (js.length : Int)) ∧ Rw w' w.heap.size #[.int .i64 t.n, .string t.s, .slice a t.kids.length cap] 48) [] (by kernel_rfl) ?g12rgS (fun hHeld => ?g12rgR)
        case g12rgS => (try dsimp only); (exact ⟨p1, r5.drew⟩)
        try dsimp only at hHeld
        refine Go.Shr.wpAnyF_take 0 (oi := { dst := some 27, op := Go.Op.fieldAddr 48 (Go.Operand.tmp 7) 0, type := 0, pos := "ref.go:38", after := #[], guard := none }) (v := ?g12rv1) rfl (by kernel_rfl) (fun _ _ _ h => h) (by assumption) (by rfl) ?g12ry1 ?g12rr1
        case g12ry1 => intro wS hSw; (obtain ⟨g2, g3⟩ := hSw); (have z0 : wS.cell? ⟨w.heap.size, 0, none⟩ = some (.int .i64 t.n) := g3.cell 0); (have z1 : wS.cell? ⟨w.heap.size, 1, none⟩ = some (.string t.s) := g3.cell 1); (have z2 : wS.cell? ⟨w.heap.size, 2, none⟩ = some (.slice a t.kids.length cap) := g3.cell 2); go_simp; try with_reducible rfl
        try simp only [Act.put, List.setIfInBounds_toArray, List.set_cons_zero, List.set_cons_succ]
        refine Go.Shr.wpAnyF_take 1 (oi := { dst := some 28, op := Go.Op.load 3 (Go.Operand.tmp 27), type := 3, pos := "ref.go:38", after := #[{ on := 0, ground := Go.Ground.data }], guard := none }) (v := ?g12rv2) rfl (by kernel_rfl) (fun _ _ _ h => h) (by assumption) (by rfl) ?g12ry2 ?g12rr2
        case g12ry2 => intro wS hSw; (obtain ⟨g2, g3⟩ := hSw); (have z0 : wS.cell? ⟨w.heap.size, 0, none⟩ = some (.int .i64 t.n) := g3.cell 0); (have z1 : wS.cell? ⟨w.heap.size, 1, none⟩ = some (.string t.s) := g3.cell 1); (have z2 : wS.cell? ⟨w.heap.size, 2, none⟩ = some (.slice a t.kids.length cap) := g3.cell 2); go_simp; try with_reducible rfl
        try simp only [Act.put, List.setIfInBounds_toArray, List.set_cons_zero, List.set_cons_succ]
        refine Go.Shr.wpAnyF_take 2 (oi := { dst := some 29, op := Go.Op.binOp Go.BinOp.neq 3 (Go.Operand.tmp 28) (Go.Operand.const (Go.Value.int Go.IntKind.i64 0)) 3, type := 4, pos := "ref.go:38", after := #[{ on := 1, ground := Go.Ground.data }], guard := none }) (v := ?g12rv3) rfl (by kernel_rfl) (fun _ _ _ h => h) (by assumption) (by rfl) ?g12ry3 ?g12rr3
        case g12ry3 => intro wS hSw; (obtain ⟨g2, g3⟩ := hSw); (have z0 : wS.cell? ⟨w.heap.size, 0, none⟩ = some (.int .i64 t.n) := g3.cell 0); (have z1 : wS.cell? ⟨w.heap.size, 1, none⟩ = some (.string t.s) := g3.cell 1); (have z2 : wS.cell? ⟨w.heap.size, 2, none⟩ = some (.slice a t.kids.length cap) := g3.cell 2); go_simp; try with_reducible rfl
        try simp only [Act.put, List.setIfInBounds_toArray, List.set_cons_zero, List.set_cons_succ]
        refine Go.Shr.wpAnyF_take 3 (oi := { dst := some 30, op := Go.Op.move (Go.Operand.tmp 29), type := 4, pos := "ref.go:38", after := #[{ on := 2, ground := Go.Ground.data }], guard := none }) (v := ?g12rv4) rfl (by kernel_rfl) (fun _ _ _ h => h) (by assumption) (by rfl) ?g12ry4 ?g12rr4
        case g12ry4 => intro wS hSw; (obtain ⟨g2, g3⟩ := hSw); (have z0 : wS.cell? ⟨w.heap.size, 0, none⟩ = some (.int .i64 t.n) := g3.cell 0); (have z1 : wS.cell? ⟨w.heap.size, 1, none⟩ = some (.string t.s) := g3.cell 1); (have z2 : wS.cell? ⟨w.heap.size, 2, none⟩ = some (.slice a t.kids.length cap) := g3.cell 2); go_simp; try with_reducible rfl
        try simp only [Act.put, List.setIfInBounds_toArray, List.set_cons_zero, List.set_cons_succ]
        first
          | refine Go.Shr.wpAnyF_skip 4 (oi := { dst := some 31, op := Go.Op.fieldAddr 48 (Go.Operand.tmp 7) 1, type := 0, pos := "ref.go:38", after := #[{ on := 3, ground := Go.Ground.guard }], guard := some (3, false) }) rfl (by kernel_rfl) (fun _ _ _ h => h) (by assumption) (by rfl) ?_
          | (refine Go.Shr.wpAnyF_take 4 (oi := { dst := some 31, op := Go.Op.fieldAddr 48 (Go.Operand.tmp 7) 1, type := 0, pos := "ref.go:38", after := #[{ on := 3, ground := Go.Ground.guard }], guard := some (3, false) }) (v := ?g12rv5) rfl (by kernel_rfl) (fun _ _ _ h => h) (by assumption) (by rfl) ?g12ry5 ?g12rr5
             case g12ry5 => intro wS hSw; (obtain ⟨g2, g3⟩ := hSw); (have z0 : wS.cell? ⟨w.heap.size, 0, none⟩ = some (.int .i64 t.n) := g3.cell 0); (have z1 : wS.cell? ⟨w.heap.size, 1, none⟩ = some (.string t.s) := g3.cell 1); (have z2 : wS.cell? ⟨w.heap.size, 2, none⟩ = some (.slice a t.kids.length cap) := g3.cell 2); go_simp; try with_reducible rfl)
        try simp only [Act.put, List.setIfInBounds_toArray, List.set_cons_zero, List.set_cons_succ]
        first
          | refine Go.Shr.wpAnyF_skip 5 (oi := { dst := some 32, op := Go.Op.load 9 (Go.Operand.tmp 31), type := 9, pos := "ref.go:38", after := #[{ on := 4, ground := Go.Ground.data }, { on := 3, ground := Go.Ground.guard }], guard := some (3, false) }) rfl (by kernel_rfl) (fun _ _ _ h => h) (by assumption) (by rfl) ?_
          | (refine Go.Shr.wpAnyF_take 5 (oi := { dst := some 32, op := Go.Op.load 9 (Go.Operand.tmp 31), type := 9, pos := "ref.go:38", after := #[{ on := 4, ground := Go.Ground.data }, { on := 3, ground := Go.Ground.guard }], guard := some (3, false) }) (v := ?g12rv6) rfl (by kernel_rfl) (fun _ _ _ h => h) (by assumption) (by rfl) ?g12ry6 ?g12rr6
             case g12ry6 => intro wS hSw; (obtain ⟨g2, g3⟩ := hSw); (have z0 : wS.cell? ⟨w.heap.size, 0, none⟩ = some (.int .i64 t.n) := g3.cell 0); (have z1 : wS.cell? ⟨w.heap.size, 1, none⟩ = some (.string t.s) := g3.cell 1); (have z2 : wS.cell? ⟨w.heap.size, 2, none⟩ = some (.slice a t.kids.length cap) := g3.cell 2); go_simp; try with_reducible rfl)
        try simp only [Act.put, List.setIfInBounds_toArray, List.set_cons_zero, List.set_cons_succ]
        first
          | refine Go.Shr.wpAnyF_skip 6 (oi := { dst := some 33, op := Go.Op.binOp Go.BinOp.neq 9 (Go.Operand.tmp 32) (Go.Operand.const (Go.Value.string { data := #[] })) 9, type := 4, pos := "ref.go:38", after := #[{ on := 5, ground := Go.Ground.data }, { on := 3, ground := Go.Ground.guard }], guard := some (3, false) }) rfl (by kernel_rfl) (fun _ _ _ h => h) (by assumption) (by rfl) ?_
          | (refine Go.Shr.wpAnyF_take 6 (oi := { dst := some 33, op := Go.Op.binOp Go.BinOp.neq 9 (Go.Operand.tmp 32) (Go.Operand.const (Go.Value.string { data := #[] })) 9, type := 4, pos := "ref.go:38", after := #[{ on := 5, ground := Go.Ground.data }, { on := 3, ground := Go.Ground.guard }], guard := some (3, false) }) (v := ?g12rv7) rfl (by kernel_rfl) (fun _ _ _ h => h) (by assumption) (by rfl) ?g12ry7 ?g12rr7
             case g12ry7 => intro wS hSw; (obtain ⟨g2, g3⟩ := hSw); (have z0 : wS.cell? ⟨w.heap.size, 0, none⟩ = some (.int .i64 t.n) := g3.cell 0); (have z1 : wS.cell? ⟨w.heap.size, 1, none⟩ = some (.string t.s) := g3.cell 1); (have z2 : wS.cell? ⟨w.heap.size, 2, none⟩ = some (.slice a t.kids.length cap) := g3.cell 2); go_simp; try with_reducible rfl)
        try simp only [Act.put, List.setIfInBounds_toArray, List.set_cons_zero, List.set_cons_succ]
        refine Go.Shr.wpAnyF_take 7 (oi := { dst := some 34, op := Go.Op.pick (Go.Operand.tmp 30) (Go.Operand.const (Go.Value.bool true)) (Go.Operand.tmp 33), type := 4, pos := "ref.go:38", after := #[{ on := 3, ground := Go.Ground.data }, { on := 6, ground := Go.Ground.data }], guard := none }) (v := ?g12rv8) rfl (by kernel_rfl) (fun _ _ _ h => h) (by assumption) (by rfl) ?g12ry8 ?g12rr8
        case g12ry8 => intro wS hSw; (obtain ⟨g2, g3⟩ := hSw); (have z0 : wS.cell? ⟨w.heap.size, 0, none⟩ = some (.int .i64 t.n) := g3.cell 0); (have z1 : wS.cell? ⟨w.heap.size, 1, none⟩ = some (.string t.s) := g3.cell 1); (have z2 : wS.cell? ⟨w.heap.size, 2, none⟩ = some (.slice a t.kids.length cap) := g3.cell 2); go_simp; try with_reducible rfl
        try simp only [Act.put, List.setIfInBounds_toArray, List.set_cons_zero, List.set_cons_succ]
        refine Go.Shr.wpAnyF_take 8 (oi := { dst := some 35, op := Go.Op.move (Go.Operand.tmp 34), type := 4, pos := "ref.go:38", after := #[{ on := 7, ground := Go.Ground.data }, { on := 3, ground := Go.Ground.chain }], guard := none }) (v := ?g12rv9) rfl (by kernel_rfl) (fun _ _ _ h => h) (by assumption) (by rfl) ?g12ry9 ?g12rr9
        case g12ry9 => intro wS hSw; (obtain ⟨g2, g3⟩ := hSw); (have z0 : wS.cell? ⟨w.heap.size, 0, none⟩ = some (.int .i64 t.n) := g3.cell 0); (have z1 : wS.cell? ⟨w.heap.size, 1, none⟩ = some (.string t.s) := g3.cell 1); (have z2 : wS.cell? ⟨w.heap.size, 2, none⟩ = some (.slice a t.kids.length cap) := g3.cell 2); go_simp; try with_reducible rfl
        try simp only [Act.put, List.setIfInBounds_toArray, List.set_cons_zero, List.set_cons_succ]
        first
          | refine Go.Shr.wpAnyF_skip 9 (oi := { dst := some 36, op := Go.Op.fieldAddr 48 (Go.Operand.tmp 7) 2, type := 0, pos := "ref.go:38", after := #[{ on := 8, ground := Go.Ground.guard }], guard := some (8, false) }) rfl (by kernel_rfl) (fun _ _ _ h => h) (by assumption) (by rfl) ?_
          | (refine Go.Shr.wpAnyF_take 9 (oi := { dst := some 36, op := Go.Op.fieldAddr 48 (Go.Operand.tmp 7) 2, type := 0, pos := "ref.go:38", after := #[{ on := 8, ground := Go.Ground.guard }], guard := some (8, false) }) (v := ?g12rv10) rfl (by kernel_rfl) (fun _ _ _ h => h) (by assumption) (by rfl) ?g12ry10 ?g12rr10
             case g12ry10 => intro wS hSw; (obtain ⟨g2, g3⟩ := hSw); (have z0 : wS.cell? ⟨w.heap.size, 0, none⟩ = some (.int .i64 t.n) := g3.cell 0); (have z1 : wS.cell? ⟨w.heap.size, 1, none⟩ = some (.string t.s) := g3.cell 1); (have z2 : wS.cell? ⟨w.heap.size, 2, none⟩ = some (.slice a t.kids.length cap) := g3.cell 2); go_simp; try with_reducible rfl)
        try simp only [Act.put, List.setIfInBounds_toArray, List.set_cons_zero, List.set_cons_succ]
        first
          | refine Go.Shr.wpAnyF_skip 10 (oi := { dst := some 37, op := Go.Op.load 46 (Go.Operand.tmp 36), type := 46, pos := "ref.go:38", after := #[{ on := 9, ground := Go.Ground.data }, { on := 8, ground := Go.Ground.guard }], guard := some (8, false) }) rfl (by kernel_rfl) (fun _ _ _ h => h) (by assumption) (by rfl) ?_
          | (refine Go.Shr.wpAnyF_take 10 (oi := { dst := some 37, op := Go.Op.load 46 (Go.Operand.tmp 36), type := 46, pos := "ref.go:38", after := #[{ on := 9, ground := Go.Ground.data }, { on := 8, ground := Go.Ground.guard }], guard := some (8, false) }) (v := ?g12rv11) rfl (by kernel_rfl) (fun _ _ _ h => h) (by assumption) (by rfl) ?g12ry11 ?g12rr11
             case g12ry11 => intro wS hSw; (obtain ⟨g2, g3⟩ := hSw); (have z0 : wS.cell? ⟨w.heap.size, 0, none⟩ = some (.int .i64 t.n) := g3.cell 0); (have z1 : wS.cell? ⟨w.heap.size, 1, none⟩ = some (.string t.s) := g3.cell 1); (have z2 : wS.cell? ⟨w.heap.size, 2, none⟩ = some (.slice a t.kids.length cap) := g3.cell 2); go_simp; try with_reducible rfl)
        try simp only [Act.put, List.setIfInBounds_toArray, List.set_cons_zero, List.set_cons_succ]
        first
          | refine Go.Shr.wpAnyF_skip 11 (oi := { dst := some 38, op := Go.Op.call { callee := Go.Callee.builtin Go.Builtin.len, args := #[Go.Operand.tmp 37], argTypes := #[46] }, type := 3, pos := "ref.go:38", after := #[{ on := 10, ground := Go.Ground.data }, { on := 8, ground := Go.Ground.guard }], guard := some (8, false) }) rfl (by kernel_rfl) (fun _ _ _ h => h) (by assumption) (by rfl) ?_
          | (refine Go.Shr.wpAnyF_take 11 (oi := { dst := some 38, op := Go.Op.call { callee := Go.Callee.builtin Go.Builtin.len, args := #[Go.Operand.tmp 37], argTypes := #[46] }, type := 3, pos := "ref.go:38", after := #[{ on := 10, ground := Go.Ground.data }, { on := 8, ground := Go.Ground.guard }], guard := some (8, false) }) (v := ?g12rv12) rfl (by kernel_rfl) (fun _ _ _ h => h) (by assumption) (by rfl) ?g12ry12 ?g12rr12
             case g12ry12 => intro wS hSw; (obtain ⟨g2, g3⟩ := hSw); (have z0 : wS.cell? ⟨w.heap.size, 0, none⟩ = some (.int .i64 t.n) := g3.cell 0); (have z1 : wS.cell? ⟨w.heap.size, 1, none⟩ = some (.string t.s) := g3.cell 1); (have z2 : wS.cell? ⟨w.heap.size, 2, none⟩ = some (.slice a t.kids.length cap) := g3.cell 2); go_simp; try with_reducible rfl)
        try simp only [Act.put, List.setIfInBounds_toArray, List.set_cons_zero, List.set_cons_succ]
        first
          | refine Go.Shr.wpAnyF_skip 12 (oi := { dst := some 39, op := Go.Op.move (Go.Operand.tmp 0), type := 25, pos := "ref.go:38", after := #[{ on := 8, ground := Go.Ground.guard }], guard := some (8, false) }) rfl (by kernel_rfl) (fun _ _ _ h => h) (by assumption) (by rfl) ?_
          | (refine Go.Shr.wpAnyF_take 12 (oi := { dst := some 39, op := Go.Op.move (Go.Operand.tmp 0), type := 25, pos := "ref.go:38", after := #[{ on := 8, ground := Go.Ground.guard }], guard := some (8, false) }) (v := ?g12rv13) rfl (by kernel_rfl) (fun _ _ _ h => h) (by assumption) (by rfl) ?g12ry13 ?g12rr13
             case g12ry13 => intro wS hSw; (obtain ⟨g2, g3⟩ := hSw); (have z0 : wS.cell? ⟨w.heap.size, 0, none⟩ = some (.int .i64 t.n) := g3.cell 0); (have z1 : wS.cell? ⟨w.heap.size, 1, none⟩ = some (.string t.s) := g3.cell 1); (have z2 : wS.cell? ⟨w.heap.size, 2, none⟩ = some (.slice a t.kids.length cap) := g3.cell 2); go_simp; try with_reducible rfl)
        try simp only [Act.put, List.setIfInBounds_toArray, List.set_cons_zero, List.set_cons_succ]
        first
          | refine Go.Shr.wpAnyF_skip 13 (oi := { dst := some 40, op := Go.Op.move (Go.Operand.tmp 2), type := 3, pos := "ref.go:38", after := #[{ on := 8, ground := Go.Ground.guard }], guard := some (8, false) }) rfl (by kernel_rfl) (fun _ _ _ h => h) (by assumption) (by rfl) ?_
          | (refine Go.Shr.wpAnyF_take 13 (oi := { dst := some 40, op := Go.Op.move (Go.Operand.tmp 2), type := 3, pos := "ref.go:38", after := #[{ on := 8, ground := Go.Ground.guard }], guard := some (8, false) }) (v := ?g12rv14) rfl (by kernel_rfl) (fun _ _ _ h => h) (by assumption) (by rfl) ?g12ry14 ?g12rr14
             case g12ry14 => intro wS hSw; (obtain ⟨g2, g3⟩ := hSw); (have z0 : wS.cell? ⟨w.heap.size, 0, none⟩ = some (.int .i64 t.n) := g3.cell 0); (have z1 : wS.cell? ⟨w.heap.size, 1, none⟩ = some (.string t.s) := g3.cell 1); (have z2 : wS.cell? ⟨w.heap.size, 2, none⟩ = some (.slice a t.kids.length cap) := g3.cell 2); go_simp; try with_reducible rfl)
        try simp only [Act.put, List.setIfInBounds_toArray, List.set_cons_zero, List.set_cons_succ]
        first
          | refine Go.Shr.wpAnyF_skip 14 (oi := { dst := some 41, op := Go.Op.indexAddr 25 (Go.Operand.tmp 39) (Go.Operand.tmp 40), type := 0, pos := "ref.go:38", after := #[{ on := 12, ground := Go.Ground.data }, { on := 13, ground := Go.Ground.data }, { on := 8, ground := Go.Ground.guard }], guard := some (8, false) }) rfl (by kernel_rfl) (fun _ _ _ h => h) (by assumption) (by rfl) ?_
          | (refine Go.Shr.wpAnyF_take 14 (oi := { dst := some 41, op := Go.Op.indexAddr 25 (Go.Operand.tmp 39) (Go.Operand.tmp 40), type := 0, pos := "ref.go:38", after := #[{ on := 12, ground := Go.Ground.data }, { on := 13, ground := Go.Ground.data }, { on := 8, ground := Go.Ground.guard }], guard := some (8, false) }) (v := ?g12rv15) rfl (by kernel_rfl) (fun _ _ _ h => h) (by assumption) (by rfl) ?g12ry15 ?g12rr15
             case g12ry15 => intro wS hSw; (obtain ⟨g2, g3⟩ := hSw); (have z0 : wS.cell? ⟨w.heap.size, 0, none⟩ = some (.int .i64 t.n) := g3.cell 0); (have z1 : wS.cell? ⟨w.heap.size, 1, none⟩ = some (.string t.s) := g3.cell 1); (have z2 : wS.cell? ⟨w.heap.size, 2, none⟩ = some (.slice a t.kids.length cap) := g3.cell 2); go_simp; try with_reducible rfl)
        try simp only [Act.put, List.setIfInBounds_toArray, List.set_cons_zero, List.set_cons_succ]
        first
          | refine Go.Shr.wpAnyF_skip 15 (oi := { dst := some 42, op := Go.Op.fieldAddr 40 (Go.Operand.tmp 41) 3, type := 0, pos := "ref.go:38", after := #[{ on := 14, ground := Go.Ground.data }, { on := 8, ground := Go.Ground.guard }], guard := some (8, false) }) rfl (by kernel_rfl) (fun _ _ _ h => h) (by assumption) (by rfl) ?_
          | (refine Go.Shr.wpAnyF_take 15 (oi := { dst := some 42, op := Go.Op.fieldAddr 40 (Go.Operand.tmp 41) 3, type := 0, pos := "ref.go:38", after := #[{ on := 14, ground := Go.Ground.data }, { on := 8, ground := Go.Ground.guard }], guard := some (8, false) }) (v := ?g12rv16) rfl (by kernel_rfl) (fun _ _ _ h => h) (by assumption) (by rfl) ?g12ry16 ?g12rr16
             case g12ry16 => intro wS hSw; (obtain ⟨g2, g3⟩ := hSw); (have z0 : wS.cell? ⟨w.heap.size, 0, none⟩ = some (.int .i64 t.n) := g3.cell 0); (have z1 : wS.cell? ⟨w.heap.size, 1, none⟩ = some (.string t.s) := g3.cell 1); (have z2 : wS.cell? ⟨w.heap.size, 2, none⟩ = some (.slice a t.kids.length cap) := g3.cell 2); go_simp; try with_reducible rfl)
        try simp only [Act.put, List.setIfInBounds_toArray, List.set_cons_zero, List.set_cons_succ]
        first
          | refine Go.Shr.wpAnyF_skip 16 (oi := { dst := some 43, op := Go.Op.load 3 (Go.Operand.tmp 42), type := 3, pos := "ref.go:38", after := #[{ on := 15, ground := Go.Ground.data }, { on := 8, ground := Go.Ground.guard }], guard := some (8, false) }) rfl (by kernel_rfl) (fun _ _ _ h => h) (by assumption) (by rfl) ?_
          | (refine Go.Shr.wpAnyF_take 16 (oi := { dst := some 43, op := Go.Op.load 3 (Go.Operand.tmp 42), type := 3, pos := "ref.go:38", after := #[{ on := 15, ground := Go.Ground.data }, { on := 8, ground := Go.Ground.guard }], guard := some (8, false) }) (v := ?g12rv17) rfl (by kernel_rfl) (fun _ _ _ h => h) (by assumption) (by rfl) ?g12ry17 ?g12rr17
             case g12ry17 => intro wS hSw; (obtain ⟨g2, g3⟩ := hSw); (have z0 : wS.cell? ⟨w.heap.size, 0, none⟩ = some (.int .i64 t.n) := g3.cell 0); (have z1 : wS.cell? ⟨w.heap.size, 1, none⟩ = some (.string t.s) := g3.cell 1); (have z2 : wS.cell? ⟨w.heap.size, 2, none⟩ = some (.slice a t.kids.length cap) := g3.cell 2); go_simp; try with_reducible rfl)
        try simp only [Act.put, List.setIfInBounds_toArray, List.set_cons_zero, List.set_cons_succ]
        first
          | refine Go.Shr.wpAnyF_skip 17 (oi := { dst := some 44, op := Go.Op.binOp Go.BinOp.neq 3 (Go.Operand.tmp 38) (Go.Operand.tmp 43) 3, type := 4, pos := "ref.go:38", after := #[{ on := 11, ground := Go.Ground.data }, { on := 16, ground := Go.Ground.data }, { on := 8, ground := Go.Ground.guard }], guard := some (8, false) }) rfl (by kernel_rfl) (fun _ _ _ h => h) (by assumption) (by rfl) ?_
          | (refine Go.Shr.wpAnyF_take 17 (oi := { dst := some 44, op := Go.Op.binOp Go.BinOp.neq 3 (Go.Operand.tmp 38) (Go.Operand.tmp 43) 3, type := 4, pos := "ref.go:38", after := #[{ on := 11, ground := Go.Ground.data }, { on := 16, ground := Go.Ground.data }, { on := 8, ground := Go.Ground.guard }], guard := some (8, false) }) (v := ?g12rv18) rfl (by kernel_rfl) (fun _ _ _ h => h) (by assumption) (by rfl) ?g12ry18 ?g12rr18
             case g12ry18 => intro wS hSw; (obtain ⟨g2, g3⟩ := hSw); (have z0 : wS.cell? ⟨w.heap.size, 0, none⟩ = some (.int .i64 t.n) := g3.cell 0); (have z1 : wS.cell? ⟨w.heap.size, 1, none⟩ = some (.string t.s) := g3.cell 1); (have z2 : wS.cell? ⟨w.heap.size, 2, none⟩ = some (.slice a t.kids.length cap) := g3.cell 2); go_simp; try with_reducible rfl)
        try simp only [Act.put, List.setIfInBounds_toArray, List.set_cons_zero, List.set_cons_succ]
        refine Go.Shr.wpAnyF_take 18 (oi := { dst := some 45, op := Go.Op.pick (Go.Operand.tmp 35) (Go.Operand.const (Go.Value.bool true)) (Go.Operand.tmp 44), type := 4, pos := "ref.go:38", after := #[{ on := 8, ground := Go.Ground.data }, { on := 17, ground := Go.Ground.data }], guard := none }) (v := ?g12rv19) rfl (by kernel_rfl) (fun _ _ _ h => h) (by assumption) (by rfl) ?g12ry19 ?g12rr19
        case g12ry19 => intro wS hSw; (obtain ⟨g2, g3⟩ := hSw); (have z0 : wS.cell? ⟨w.heap.size, 0, none⟩ = some (.int .i64 t.n) := g3.cell 0); (have z1 : wS.cell? ⟨w.heap.size, 1, none⟩ = some (.string t.s) := g3.cell 1); (have z2 : wS.cell? ⟨w.heap.size, 2, none⟩ = some (.slice a t.kids.length cap) := g3.cell 2); go_simp; try with_reducible rfl
        try simp only [Act.put, List.setIfInBounds_toArray, List.set_cons_zero, List.set_cons_succ]
        refine Go.Shr.wpAnyF_done (by kernel_rfl) ?_
        go_wp2_with fail
        go_ret
        exact ⟨ret_i H13.out.symm, hbx.drew⟩
    · have H13 : Hid (fitT l (KF l) t i = 13) := Lib.hid (by rw [HR2.out, if_pos (.inl hn0)])
      have hnb : (t.n != 0) = true := by simp [hn0]
      have hnc : (t.n == 0) = false := beq_eq_false_iff_ne.2 hn0
      clear HR2 hn0
      go_enter Try.func43, Try.ntmps43
      go_wp2_with fail
      have hbx := ba (b0 w) (.cells #[.int .i64 t.n, .string t.s, .slice a t.kids.length cap] 48)
      have r5 := Rw.new w #[.int .i64 t.n, .string t.s, .slice a t.kids.length cap] 48
      generalize w.alloc (.cells #[.int .i64 t.n, .string t.s, .slice a t.kids.length cap] 48) = wx at hbx r5 ⊢
      have p1 := cb hbx f3
      have hi0 : (0 : Int) ≤ (i : Int) := by omega
      have hi1 : (i : Int) < (l.length : Int) := by omega
      refine Go.Shr.wp_region_F (fun w' => w'.cell? ⟨sb, soff + i * 4 + 3, none⟩ = some (.int .i64 (js.length : Int)) ∧ Rw w' w.heap.size #[.int .i64 t.n, .string t.s, .slice a t.kids.length cap] 48) [] (by kernel_rfl) ?g13rgS (fun hHeld => ?g13rgR)
      case g13rgS => (try dsimp only); (exact ⟨p1, r5.drew⟩)
      try dsimp only at hHeld
      refine Go.Shr.wpAnyF_take 0 (oi := { dst := some 27, op := Go.Op.fieldAddr 48 (Go.Operand.tmp 7) 0, type := 0, pos := "ref.go:38", after := #[], guard := none }) (v := ?g13rv1) rfl (by kernel_rfl) (fun _ _ _ h => h) (by assumption) (by rfl) ?g13ry1 ?g13rr1
      case g13ry1 => intro wS hSw; (obtain ⟨g2, g3⟩ := hSw); (have z0 : wS.cell? ⟨w.heap.size, 0, none⟩ = some (.int .i64 t.n) := g3.cell 0); (have z1 : wS.cell? ⟨w.heap.size, 1, none⟩ = some (.string t.s) := g3.cell 1); (have z2 : wS.cell? ⟨w.heap.size, 2, none⟩ = some (.slice a t.kids.length cap) := g3.cell 2); go_simp; try with_reducible rfl
      try simp only [Act.put, List.setIfInBounds_toArray, List.set_cons_zero, List.set_cons_succ]
      refine Go.Shr.wpAnyF_take 1 (oi := { dst := some 28, op := Go.Op.load 3 (Go.Operand.tmp 27), type := 3, pos := "ref.go:38", after := #[{ on := 0, ground := Go.Ground.data }], guard := none }) (v := ?g13rv2) rfl (by kernel_rfl) (fun _ _ _ h => h) (by assumption) (by rfl) ?g13ry2 ?g13rr2
      case g13ry2 => intro wS hSw; (obtain ⟨g2, g3⟩ := hSw); (have z0 : wS.cell? ⟨w.heap.size, 0, none⟩ = some (.int .i64 t.n) := g3.cell 0); (have z1 : wS.cell? ⟨w.heap.size, 1, none⟩ = some (.string t.s) := g3.cell 1); (have z2 : wS.cell? ⟨w.heap.size, 2, none⟩ = some (.slice a t.kids.length cap) := g3.cell 2); go_simp; try with_reducible rfl
      try simp only [Act.put, List.setIfInBounds_toArray, List.set_cons_zero, List.set_cons_succ]
      refine Go.Shr.wpAnyF_take 2 (oi := { dst := some 29, op := Go.Op.binOp Go.BinOp.neq 3 (Go.Operand.tmp 28) (Go.Operand.const (Go.Value.int Go.IntKind.i64 0)) 3, type := 4, pos := "ref.go:38", after := #[{ on := 1, ground := Go.Ground.data }], guard := none }) (v := ?g13rv3) rfl (by kernel_rfl) (fun _ _ _ h => h) (by assumption) (by rfl) ?g13ry3 ?g13rr3
      case g13ry3 => intro wS hSw; (obtain ⟨g2, g3⟩ := hSw); (have z0 : wS.cell? ⟨w.heap.size, 0, none⟩ = some (.int .i64 t.n) := g3.cell 0); (have z1 : wS.cell? ⟨w.heap.size, 1, none⟩ = some (.string t.s) := g3.cell 1); (have z2 : wS.cell? ⟨w.heap.size, 2, none⟩ = some (.slice a t.kids.length cap) := g3.cell 2); go_simp; try with_reducible rfl
      try simp only [Act.put, List.setIfInBounds_toArray, List.set_cons_zero, List.set_cons_succ]
      refine Go.Shr.wpAnyF_take 3 (oi := { dst := some 30, op := Go.Op.move (Go.Operand.tmp 29), type := 4, pos := "ref.go:38", after := #[{ on := 2, ground := Go.Ground.data }], guard := none }) (v := ?g13rv4) rfl (by kernel_rfl) (fun _ _ _ h => h) (by assumption) (by rfl) ?g13ry4 ?g13rr4
      case g13ry4 => intro wS hSw; (obtain ⟨g2, g3⟩ := hSw); (have z0 : wS.cell? ⟨w.heap.size, 0, none⟩ = some (.int .i64 t.n) := g3.cell 0); (have z1 : wS.cell? ⟨w.heap.size, 1, none⟩ = some (.string t.s) := g3.cell 1); (have z2 : wS.cell? ⟨w.heap.size, 2, none⟩ = some (.slice a t.kids.length cap) := g3.cell 2); go_simp; try with_reducible rfl
      try simp only [Act.put, List.setIfInBounds_toArray, List.set_cons_zero, List.set_cons_succ]
      first
        | refine Go.Shr.wpAnyF_skip 4 (oi := { dst := some 31, op := Go.Op.fieldAddr 48 (Go.Operand.tmp 7) 1, type := 0, pos := "ref.go:38", after := #[{ on := 3, ground := Go.Ground.guard }], guard := some (3, false) }) rfl (by kernel_rfl) (fun _ _ _ h => h) (by assumption) (by rfl) ?_
        | (refine Go.Shr.wpAnyF_take 4 (oi := { dst := some 31, op := Go.Op.fieldAddr 48 (Go.Operand.tmp 7) 1, type := 0, pos := "ref.go:38", after := #[{ on := 3, ground := Go.Ground.guard }], guard := some (3, false) }) (v := ?g13rv5) rfl (by kernel_rfl) (fun _ _ _ h => h) (by assumption) (by rfl) ?g13ry5 ?g13rr5
           case g13ry5 => intro wS hSw; (obtain ⟨g2, g3⟩ := hSw); (have z0 : wS.cell? ⟨w.heap.size, 0, none⟩ = some (.int .i64 t.n) := g3.cell 0); (have z1 : wS.cell? ⟨w.heap.size, 1, none⟩ = some (.string t.s) := g3.cell 1); (have z2 : wS.cell? ⟨w.heap.size, 2, none⟩ = some (.slice a t.kids.length cap) := g3.cell 2); go_simp; try with_reducible rfl)
      try simp only [Act.put, List.setIfInBounds_toArray, List.set_cons_zero, List.set_cons_succ]
      first
        | refine Go.Shr.wpAnyF_skip 5 (oi := { dst := some 32, op := Go.Op.load 9 (Go.Operand.tmp 31), type := 9, pos := "ref.go:38", after := #[{ on := 4, ground := Go.Ground.data }, { on := 3, ground := Go.Ground.guard }], guard := some (3, false) }) rfl (by kernel_rfl) (fun _ _ _ h => h) (by assumption) (by rfl) ?_
        | (refine Go.Shr.wpAnyF_take 5 (oi := { dst := some 32, op := Go.Op.load 9 (Go.Operand.tmp 31), type := 9, pos := "ref.go:38", after := #[{ on := 4, ground := Go.Ground.data }, { on := 3, ground := Go.Ground.guard }], guard := some (3, false) }) (v := ?g13rv6) rfl (by kernel_rfl) (fun _ _ _ h => h) (by assumption) (by rfl) ?g13ry6 ?g13rr6
           case g13ry6 => intro wS hSw; (obtain ⟨g2, g3⟩ := hSw); (have z0 : wS.cell? ⟨w.heap.size, 0, none⟩ = some (.int .i64 t.n) := g3.cell 0); (have z1 : wS.cell? ⟨w.heap.size, 1, none⟩ = some (.string t.s) := g3.cell 1); (have z2 : wS.cell? ⟨w.heap.size, 2, none⟩ = some (.slice a t.kids.length cap) := g3.cell 2); go_simp; try with_reducible rfl)
      try simp only [Act.put, List.setIfInBounds_toArray, List.set_cons_zero, List.set_cons_succ]
      first
        | refine Go.Shr.wpAnyF_skip 6 (oi := { dst := some 33, op := Go.Op.binOp Go.BinOp.neq 9 (Go.Operand.tmp 32) (Go.Operand.const (Go.Value.string { data := #[] })) 9, type := 4, pos := "ref.go:38", after := #[{ on := 5, ground := Go.Ground.data }, { on := 3, ground := Go.Ground.guard }], guard := some (3, false) }) rfl (by kernel_rfl) (fun _ _ _ h => h) (by assumption) (by rfl) ?_
        | (refine Go.Shr.wpAnyF_take 6 (oi := { dst := some 33, op := Go.Op.binOp Go.BinOp.neq 9 (Go.Operand.tmp 32) (Go.Operand.const (Go.Value.string { data := #[] })) 9, type := 4, pos := "ref.go:38", after := #[{ on := 5, ground := Go.Ground.data }, { on := 3, ground := Go.Ground.guard }], guard := some (3, false) }) (v := ?g13rv7) rfl (by kernel_rfl) (fun _ _ _ h => h) (by assumption) (by rfl) ?g13ry7 ?g13rr7
           case g13ry7 => intro wS hSw; (obtain ⟨g2, g3⟩ := hSw); (have z0 : wS.cell? ⟨w.heap.size, 0, none⟩ = some (.int .i64 t.n) := g3.cell 0); (have z1 : wS.cell? ⟨w.heap.size, 1, none⟩ = some (.string t.s) := g3.cell 1); (have z2 : wS.cell? ⟨w.heap.size, 2, none⟩ = some (.slice a t.kids.length cap) := g3.cell 2); go_simp; try with_reducible rfl)
      try simp only [Act.put, List.setIfInBounds_toArray, List.set_cons_zero, List.set_cons_succ]
      refine Go.Shr.wpAnyF_take 7 (oi := { dst := some 34, op := Go.Op.pick (Go.Operand.tmp 30) (Go.Operand.const (Go.Value.bool true)) (Go.Operand.tmp 33), type := 4, pos := "ref.go:38", after := #[{ on := 3, ground := Go.Ground.data }, { on := 6, ground := Go.Ground.data }], guard := none }) (v := ?g13rv8) rfl (by kernel_rfl) (fun _ _ _ h => h) (by assumption) (by rfl) ?g13ry8 ?g13rr8
      case g13ry8 => intro wS hSw; (obtain ⟨g2, g3⟩ := hSw); (have z0 : wS.cell? ⟨w.heap.size, 0, none⟩ = some (.int .i64 t.n) := g3.cell 0); (have z1 : wS.cell? ⟨w.heap.size, 1, none⟩ = some (.string t.s) := g3.cell 1); (have z2 : wS.cell? ⟨w.heap.size, 2, none⟩ = some (.slice a t.kids.length cap) := g3.cell 2); go_simp; try with_reducible rfl
      try simp only [Act.put, List.setIfInBounds_toArray, List.set_cons_zero, List.set_cons_succ]
      refine Go.Shr.wpAnyF_take 8 (oi := { dst := some 35, op := Go.Op.move (Go.Operand.tmp 34), type := 4, pos := "ref.go:38", after := #[{ on := 7, ground := Go.Ground.data }, { on := 3, ground := Go.Ground.chain }], guard := none }) (v := ?g13rv9) rfl (by kernel_rfl) (fun _ _ _ h => h) (by assumption) (by rfl) ?g13ry9 ?g13rr9
      case g13ry9 => intro wS hSw; (obtain ⟨g2, g3⟩ := hSw); (have z0 : wS.cell? ⟨w.heap.size, 0, none⟩ = some (.int .i64 t.n) := g3.cell 0); (have z1 : wS.cell? ⟨w.heap.size, 1, none⟩ = some (.string t.s) := g3.cell 1); (have z2 : wS.cell? ⟨w.heap.size, 2, none⟩ = some (.slice a t.kids.length cap) := g3.cell 2); go_simp; try with_reducible rfl
      try simp only [Act.put, List.setIfInBounds_toArray, List.set_cons_zero, List.set_cons_succ]
      first
        | refine Go.Shr.wpAnyF_skip 9 (oi := { dst := some 36, op := Go.Op.fieldAddr 48 (Go.Operand.tmp 7) 2, type := 0, pos := "ref.go:38", after := #[{ on := 8, ground := Go.Ground.guard }], guard := some (8, false) }) rfl (by kernel_rfl) (fun _ _ _ h => h) (by assumption) (by rfl) ?_
        | (refine Go.Shr.wpAnyF_take 9 (oi := { dst := some 36, op := Go.Op.fieldAddr 48 (Go.Operand.tmp 7) 2, type := 0, pos := "ref.go:38", after := #[{ on := 8, ground := Go.Ground.guard }], guard := some (8, false) }) (v := ?g13rv10) rfl (by kernel_rfl) (fun _ _ _ h => h) (by assumption) (by rfl) ?g13ry10 ?g13rr10
           case g13ry10 => intro wS hSw; (obtain ⟨g2, g3⟩ := hSw); (have z0 : wS.cell? ⟨w.heap.size, 0, none⟩ = some (.int .i64 t.n) := g3.cell 0); (have z1 : wS.cell? ⟨w.heap.size, 1, none⟩ = some (.string t.s) := g3.cell 1); (have z2 : wS.cell? ⟨w.heap.size, 2, none⟩ = some (.slice a t.kids.length cap) := g3.cell 2); go_simp; try with_reducible rfl)
      try simp only [Act.put, List.setIfInBounds_toArray, List.set_cons_zero, List.set_cons_succ]
      first
        | refine Go.Shr.wpAnyF_skip 10 (oi := { dst := some 37, op := Go.Op.load 46 (Go.Operand.tmp 36), type := 46, pos := "ref.go:38", after := #[{ on := 9, ground := Go.Ground.data }, { on := 8, ground := Go.Ground.guard }], guard := some (8, false) }) rfl (by kernel_rfl) (fun _ _ _ h => h) (by assumption) (by rfl) ?_
        | (refine Go.Shr.wpAnyF_take 10 (oi := { dst := some 37, op := Go.Op.load 46 (Go.Operand.tmp 36), type := 46, pos := "ref.go:38", after := #[{ on := 9, ground := Go.Ground.data }, { on := 8, ground := Go.Ground.guard }], guard := some (8, false) }) (v := ?g13rv11) rfl (by kernel_rfl) (fun _ _ _ h => h) (by assumption) (by rfl) ?g13ry11 ?g13rr11
           case g13ry11 => intro wS hSw; (obtain ⟨g2, g3⟩ := hSw); (have z0 : wS.cell? ⟨w.heap.size, 0, none⟩ = some (.int .i64 t.n) := g3.cell 0); (have z1 : wS.cell? ⟨w.heap.size, 1, none⟩ = some (.string t.s) := g3.cell 1); (have z2 : wS.cell? ⟨w.heap.size, 2, none⟩ = some (.slice a t.kids.length cap) := g3.cell 2); go_simp; try with_reducible rfl)
      try simp only [Act.put, List.setIfInBounds_toArray, List.set_cons_zero, List.set_cons_succ]
      first
        | refine Go.Shr.wpAnyF_skip 11 (oi := { dst := some 38, op := Go.Op.call { callee := Go.Callee.builtin Go.Builtin.len, args := #[Go.Operand.tmp 37], argTypes := #[46] }, type := 3, pos := "ref.go:38", after := #[{ on := 10, ground := Go.Ground.data }, { on := 8, ground := Go.Ground.guard }], guard := some (8, false) }) rfl (by kernel_rfl) (fun _ _ _ h => h) (by assumption) (by rfl) ?_
        | (refine Go.Shr.wpAnyF_take 11 (oi := { dst := some 38, op := Go.Op.call { callee := Go.Callee.builtin Go.Builtin.len, args := #[Go.Operand.tmp 37], argTypes := #[46] }, type := 3, pos := "ref.go:38", after := #[{ on := 10, ground := Go.Ground.data }, { on := 8, ground := Go.Ground.guard }], guard := some (8, false) }) (v := ?g13rv12) rfl (by kernel_rfl) (fun _ _ _ h => h) (by assumption) (by rfl) ?g13ry12 ?g13rr12
           case g13ry12 => intro wS hSw; (obtain ⟨g2, g3⟩ := hSw); (have z0 : wS.cell? ⟨w.heap.size, 0, none⟩ = some (.int .i64 t.n) := g3.cell 0); (have z1 : wS.cell? ⟨w.heap.size, 1, none⟩ = some (.string t.s) := g3.cell 1); (have z2 : wS.cell? ⟨w.heap.size, 2, none⟩ = some (.slice a t.kids.length cap) := g3.cell 2); go_simp; try with_reducible rfl)
      try simp only [Act.put, List.setIfInBounds_toArray, List.set_cons_zero, List.set_cons_succ]
      first
        | refine Go.Shr.wpAnyF_skip 12 (oi := { dst := some 39, op := Go.Op.move (Go.Operand.tmp 0), type := 25, pos := "ref.go:38", after := #[{ on := 8, ground := Go.Ground.guard }], guard := some (8, false) }) rfl (by kernel_rfl) (fun _ _ _ h => h) (by assumption) (by rfl) ?_
        | (refine Go.Shr.wpAnyF_take 12 (oi := { dst := some 39, op := Go.Op.move (Go.Operand.tmp 0), type := 25, pos := "ref.go:38", after := #[{ on := 8, ground := Go.Ground.guard }], guard := some (8, false) }) (v := ?g13rv13) rfl (by kernel_rfl) (fun _ _ _ h => h) (by assumption) (by rfl) ?g13ry13 ?g13rr13
           case g13ry13 => intro wS hSw; (obtain ⟨g2, g3⟩ := hSw); (have z0 : wS.cell? ⟨w.heap.size, 0, none⟩ = some (.int .i64 t.n) := g3.cell 0); (have z1 : wS.cell? ⟨w.heap.size, 1, none⟩ = some (.string t.s) := g3.cell 1); (have z2 : wS.cell? ⟨w.heap.size, 2, none⟩ = some (.slice a t.kids.length cap) := g3.cell 2); go_simp; try with_reducible rfl)
      try simp only [Act.put, List.setIfInBounds_toArray, List.set_cons_zero, List.set_cons_succ]
      first
        | refine Go.Shr.wpAnyF_skip 13 (oi := { dst := some 40, op := Go.Op.move (Go.Operand.tmp 2), type := 3, pos := "ref.go:38", after := #[{ on := 8, ground := Go.Ground.guard }], guard := some (8, false) }) rfl (by kernel_rfl) (fun _ _ _ h => h) (by assumption) (by rfl) ?_
        | (refine Go.Shr.wpAnyF_take 13 (oi := { dst := some 40, op := Go.Op.move (Go.Operand.tmp 2), type := 3, pos := "ref.go:38", after := #[{ on := 8, ground := Go.Ground.guard }], guard := some (8, false) }) (v := ?g13rv14) rfl (by kernel_rfl) (fun _ _ _ h => h) (by assumption) (by rfl) ?g13ry14 ?g13rr14
           case g13ry14 => intro wS hSw; (obtain ⟨g2, g3⟩ := hSw); (have z0 : wS.cell? ⟨w.heap.size, 0, none⟩ = some (.int .i64 t.n) := g3.cell 0); (have z1 : wS.cell? ⟨w.heap.size, 1, none⟩ = some (.string t.s) := g3.cell 1); (have z2 : wS.cell? ⟨w.heap.size, 2, none⟩ = some (.slice a t.kids.length cap) := g3.cell 2); go_simp; try with_reducible rfl)
      try simp only [Act.put, List.setIfInBounds_toArray, List.set_cons_zero, List.set_cons_succ]
      first
        | refine Go.Shr.wpAnyF_skip 14 (oi := { dst := some 41, op := Go.Op.indexAddr 25 (Go.Operand.tmp 39) (Go.Operand.tmp 40), type := 0, pos := "ref.go:38", after := #[{ on := 12, ground := Go.Ground.data }, { on := 13, ground := Go.Ground.data }, { on := 8, ground := Go.Ground.guard }], guard := some (8, false) }) rfl (by kernel_rfl) (fun _ _ _ h => h) (by assumption) (by rfl) ?_
        | (refine Go.Shr.wpAnyF_take 14 (oi := { dst := some 41, op := Go.Op.indexAddr 25 (Go.Operand.tmp 39) (Go.Operand.tmp 40), type := 0, pos := "ref.go:38", after := #[{ on := 12, ground := Go.Ground.data }, { on := 13, ground := Go.Ground.data }, { on := 8, ground := Go.Ground.guard }], guard := some (8, false) }) (v := ?g13rv15) rfl (by kernel_rfl) (fun _ _ _ h => h) (by assumption) (by rfl) ?g13ry15 ?g13rr15
           case g13ry15 => intro wS hSw; (obtain ⟨g2, g3⟩ := hSw); (have z0 : wS.cell? ⟨w.heap.size, 0, none⟩ = some (.int .i64 t.n) := g3.cell 0); (have z1 : wS.cell? ⟨w.heap.size, 1, none⟩ = some (.string t.s) := g3.cell 1); (have z2 : wS.cell? ⟨w.heap.size, 2, none⟩ = some (.slice a t.kids.length cap) := g3.cell 2); go_simp; try with_reducible rfl)
      try simp only [Act.put, List.setIfInBounds_toArray, List.set_cons_zero, List.set_cons_succ]
      first
        | refine Go.Shr.wpAnyF_skip 15 (oi := { dst := some 42, op := Go.Op.fieldAddr 40 (Go.Operand.tmp 41) 3, type := 0, pos := "ref.go:38", after := #[{ on := 14, ground := Go.Ground.data }, { on := 8, ground := Go.Ground.guard }], guard := some (8, false) }) rfl (by kernel_rfl) (fun _ _ _ h => h) (by assumption) (by rfl) ?_
        | (refine Go.Shr.wpAnyF_take 15 (oi := { dst := some 42, op := Go.Op.fieldAddr 40 (Go.Operand.tmp 41) 3, type := 0, pos := "ref.go:38", after := #[{ on := 14, ground := Go.Ground.data }, { on := 8, ground := Go.Ground.guard }], guard := some (8, false) }) (v := ?g13rv16) rfl (by kernel_rfl) (fun _ _ _ h => h) (by assumption) (by rfl) ?g13ry16 ?g13rr16
           case g13ry16 => intro wS hSw; (obtain ⟨g2, g3⟩ := hSw); (have z0 : wS.cell? ⟨w.heap.size, 0, none⟩ = some (.int .i64 t.n) := g3.cell 0); (have z1 : wS.cell? ⟨w.heap.size, 1, none⟩ = some (.string t.s) := g3.cell 1); (have z2 : wS.cell? ⟨w.heap.size, 2, none⟩ = some (.slice a t.kids.length cap) := g3.cell 2); go_simp; try with_reducible rfl)
      try simp only [Act.put, List.setIfInBounds_toArray, List.set_cons_zero, List.set_cons_succ]
      first
        | refine Go.Shr.wpAnyF_skip 16 (oi := { dst := some 43, op := Go.Op.load 3 (Go.Operand.tmp 42), type := 3, pos := "ref.go:38", after := #[{ on := 15, ground := Go.Ground.data }, { on := 8, ground := Go.Ground.guard }], guard := some (8, false) }) rfl (by kernel_rfl) (fun _ _ _ h => h) (by assumption) (by rfl) ?_
        | (refine Go.Shr.wpAnyF_take 16 (oi := { dst := some 43, op := Go.Op.load 3 (Go.Operand.tmp 42), type := 3, pos := "ref.go:38", after := #[{ on := 15, ground := Go.Ground.data }, { on := 8, ground := Go.Ground.guard }], guard := some (8, false) }) (v := ?g13rv17) rfl (by kernel_rfl) (fun _ _ _ h => h) (by assumption) (by rfl) ?g13ry17 ?g13rr17
           case g13ry17 => intro wS hSw; (obtain ⟨g2, g3⟩ := hSw); (have z0 : wS.cell? ⟨w.heap.size, 0, none⟩ = some (.int .i64 t.n) := g3.cell 0); (have z1 : wS.cell? ⟨w.heap.size, 1, none⟩ = some (.string t.s) := g3.cell 1); (have z2 : wS.cell? ⟨w.heap.size, 2, none⟩ = some (.slice a t.kids.length cap) := g3.cell 2); go_simp; try with_reducible rfl)
      try simp only [Act.put, List.setIfInBounds_toArray, List.set_cons_zero, List.set_cons_succ]
      first
        | refine Go.Shr.wpAnyF_skip 17 (oi := { dst := some 44, op := Go.Op.binOp Go.BinOp.neq 3 (Go.Operand.tmp 38) (Go.Operand.tmp 43) 3, type := 4, pos := "ref.go:38", after := #[{ on := 11, ground := Go.Ground.data }, { on := 16, ground := Go.Ground.data }, { on := 8, ground := Go.Ground.guard }], guard := some (8, false) }) rfl (by kernel_rfl) (fun _ _ _ h => h) (by assumption) (by rfl) ?_
        | (refine Go.Shr.wpAnyF_take 17 (oi := { dst := some 44, op := Go.Op.binOp Go.BinOp.neq 3 (Go.Operand.tmp 38) (Go.Operand.tmp 43) 3, type := 4, pos := "ref.go:38", after := #[{ on := 11, ground := Go.Ground.data }, { on := 16, ground := Go.Ground.data }, { on := 8, ground := Go.Ground.guard }], guard := some (8, false) }) (v := ?g13rv18) rfl (by kernel_rfl) (fun _ _ _ h => h) (by assumption) (by rfl) ?g13ry18 ?g13rr18
           case g13ry18 => intro wS hSw; (obtain ⟨g2, g3⟩ := hSw); (have z0 : wS.cell? ⟨w.heap.size, 0, none⟩ = some (.int .i64 t.n) := g3.cell 0); (have z1 : wS.cell? ⟨w.heap.size, 1, none⟩ = some (.string t.s) := g3.cell 1); (have z2 : wS.cell? ⟨w.heap.size, 2, none⟩ = some (.slice a t.kids.length cap) := g3.cell 2); go_simp; try with_reducible rfl)
      try simp only [Act.put, List.setIfInBounds_toArray, List.set_cons_zero, List.set_cons_succ]
      refine Go.Shr.wpAnyF_take 18 (oi := { dst := some 45, op := Go.Op.pick (Go.Operand.tmp 35) (Go.Operand.const (Go.Value.bool true)) (Go.Operand.tmp 44), type := 4, pos := "ref.go:38", after := #[{ on := 8, ground := Go.Ground.data }, { on := 17, ground := Go.Ground.data }], guard := none }) (v := ?g13rv19) rfl (by kernel_rfl) (fun _ _ _ h => h) (by assumption) (by rfl) ?g13ry19 ?g13rr19
      case g13ry19 => intro wS hSw; (obtain ⟨g2, g3⟩ := hSw); (have z0 : wS.cell? ⟨w.heap.size, 0, none⟩ = some (.int .i64 t.n) := g3.cell 0); (have z1 : wS.cell? ⟨w.heap.size, 1, none⟩ = some (.string t.s) := g3.cell 1); (have z2 : wS.cell? ⟨w.heap.size, 2, none⟩ = some (.slice a t.kids.length cap) := g3.cell 2); go_simp; try with_reducible rfl
      try simp only [Act.put, List.setIfInBounds_toArray, List.set_cons_zero, List.set_cons_succ]
      refine Go.Shr.wpAnyF_done (by kernel_rfl) ?_
      go_wp2_with fail
      go_ret
      exact ⟨ret_i H13.out.symm, hbx.drew⟩
  · have hkb : (kd == 0) = false := beq_eq_false_iff_ne.2 hkz
    have hkb2 : (kd != 0) = true := by simp [hkz]
    have HR2 : Hid (fitT l (KF l) t i = leafT kd t) := Lib.hid (by rw [HR.out, if_pos hkz])
    have HLF := Lib.hid (fun w' => rleaf_v kd t a t.kids.length cap rfl w' (by omega) (by omega) hss)
    clear HR hkz hgi f3
    go_enter Try.func43, Try.ntmps43
    go_wp2_with fail
    have hbx := ba (b0 w) (.cells #[.int .i64 t.n, .string t.s, .slice a t.kids.length cap] 48)
    have r5 := Rw.new w #[.int .i64 t.n, .string t.s, .slice a t.kids.length cap] 48
    generalize w.alloc (.cells #[.int .i64 t.n, .string t.s, .slice a t.kids.length cap] 48) = wx at hbx r5 ⊢
    have p1 := cb hbx f2
    have hi0 : (0 : Int) ≤ (i : Int) := by omega
    have hi1 : (i : Int) < (l.length : Int) := by omega
    refine Go.Shr.wp_region_F (fun w' => w'.cell? ⟨sb, soff + i * 4 + 2, none⟩ = some (.int .i64 kd) ∧ Rw w' w.heap.size #[.int .i64 t.n, .string t.s, .slice a t.kids.length cap] 48) [7] (by kernel_rfl) ?g14rgS (fun hHeld => ?g14rgR)
    case g14rgS => (try dsimp only); (first | exact ⟨p1, r5.drew⟩ | exact ⟨cb hb9 hHeld.1, hHeld.2.below hb9⟩)
    try dsimp only at hHeld
    refine Go.Shr.wpAnyF_take 0 (oi := { dst := some 20, op := Go.Op.move (Go.Operand.tmp 0), type := 25, pos := "ref.go:36", after := #[], guard := none }) (v := ?g14rv1) rfl (by kernel_rfl) (fun _ _ _ h => h) (by assumption) (by rfl) ?g14ry1 ?g14rr1
    case g14ry1 => intro wS hSw; (obtain ⟨g2, g3⟩ := hSw); (have z0 : wS.cell? ⟨w.heap.size, 0, none⟩ = some (.int .i64 t.n) := g3.cell 0); (have z1 : wS.cell? ⟨w.heap.size, 1, none⟩ = some (.string t.s) := g3.cell 1); (have z2 : wS.cell? ⟨w.heap.size, 2, none⟩ = some (.slice a t.kids.length cap) := g3.cell 2); go_simp; try with_reducible rfl
    try simp only [Act.put, List.setIfInBounds_toArray, List.set_cons_zero, List.set_cons_succ]
    refine Go.Shr.wpAnyF_take 1 (oi := { dst := some 21, op := Go.Op.move (Go.Operand.tmp 2), type := 3, pos := "ref.go:36", after := #[], guard := none }) (v := ?g14rv2) rfl (by kernel_rfl) (fun _ _ _ h => h) (by assumption) (by rfl) ?g14ry2 ?g14rr2
    case g14ry2 => intro wS hSw; (obtain ⟨g2, g3⟩ := hSw); (have z0 : wS.cell? ⟨w.heap.size, 0, none⟩ = some (.int .i64 t.n) := g3.cell 0); (have z1 : wS.cell? ⟨w.heap.size, 1, none⟩ = some (.string t.s) := g3.cell 1); (have z2 : wS.cell? ⟨w.heap.size, 2, none⟩ = some (.slice a t.kids.length cap) := g3.cell 2); go_simp; try with_reducible rfl
    try simp only [Act.put, List.setIfInBounds_toArray, List.set_cons_zero, List.set_cons_succ]
    refine Go.Shr.wpAnyF_take 2 (oi := { dst := some 22, op := Go.Op.indexAddr 25 (Go.Operand.tmp 20) (Go.Operand.tmp 21), type := 0, pos := "ref.go:36", after := #[{ on := 0, ground := Go.Ground.data }, { on := 1, ground := Go.Ground.data }], guard := none }) (v := ?g14rv3) rfl (by kernel_rfl) (fun _ _ _ h => h) (by assumption) (by rfl) ?g14ry3 ?g14rr3
    case g14ry3 => intro wS hSw; (obtain ⟨g2, g3⟩ := hSw); (have z0 : wS.cell? ⟨w.heap.size, 0, none⟩ = some (.int .i64 t.n) := g3.cell 0); (have z1 : wS.cell? ⟨w.heap.size, 1, none⟩ = some (.string t.s) := g3.cell 1); (have z2 : wS.cell? ⟨w.heap.size, 2, none⟩ = some (.slice a t.kids.length cap) := g3.cell 2); go_simp; try with_reducible rfl
    try simp only [Act.put, List.setIfInBounds_toArray, List.set_cons_zero, List.set_cons_succ]
    refine Go.Shr.wpAnyF_take 3 (oi := { dst := some 23, op := Go.Op.fieldAddr 40 (Go.Operand.tmp 22) 2, type := 0, pos := "ref.go:36", after := #[{ on := 2, ground := Go.Ground.data }], guard := none }) (v := ?g14rv4) rfl (by kernel_rfl) (fun _ _ _ h => h) (by assumption) (by rfl) ?g14ry4 ?g14rr4
    case g14ry4 => intro wS hSw; (obtain ⟨g2, g3⟩ := hSw); (have z0 : wS.cell? ⟨w.heap.size, 0, none⟩ = some (.int .i64 t.n) := g3.cell 0); (have z1 : wS.cell? ⟨w.heap.size, 1, none⟩ = some (.string t.s) := g3.cell 1); (have z2 : wS.cell? ⟨w.heap.size, 2, none⟩ = some (.slice a t.kids.length cap) := g3.cell 2); go_simp; try with_reducible rfl
    try simp only [Act.put, List.setIfInBounds_toArray, List.set_cons_zero, List.set_cons_succ]
    refine Go.Shr.wpAnyF_take 4 (oi := { dst := some 24, op := Go.Op.load 3 (Go.Operand.tmp 23), type := 3, pos := "ref.go:36", after := #[{ on := 3, ground := Go.Ground.data }], guard := none }) (v := ?g14rv5) rfl (by kernel_rfl) (fun _ _ _ h => h) (by assumption) (by rfl) ?g14ry5 ?g14rr5
    case g14ry5 => intro wS hSw; (obtain ⟨g2, g3⟩ := hSw); (have z0 : wS.cell? ⟨w.heap.size, 0, none⟩ = some (.int .i64 t.n) := g3.cell 0); (have z1 : wS.cell? ⟨w.heap.size, 1, none⟩ = some (.string t.s) := g3.cell 1); (have z2 : wS.cell? ⟨w.heap.size, 2, none⟩ = some (.slice a t.kids.length cap) := g3.cell 2); go_simp; try with_reducible rfl
    try simp only [Act.put, List.setIfInBounds_toArray, List.set_cons_zero, List.set_cons_succ]
    refine Go.Shr.wpAnyF_take 5 (oi := { dst := some 25, op := Go.Op.load 48 (Go.Operand.tmp 7), type := 48, pos := "ref.go:36", after := #[], guard := none }) (v := ?g14rv6) rfl (by kernel_rfl) (fun _ _ _ h => h) (by assumption) (by rfl) ?g14ry6 ?g14rr6
    case g14ry6 => intro wS hSw; (obtain ⟨g2, g3⟩ := hSw); (have z0 : wS.cell? ⟨w.heap.size, 0, none⟩ = some (.int .i64 t.n) := g3.cell 0); (have z1 : wS.cell? ⟨w.heap.size, 1, none⟩ = some (.string t.s) := g3.cell 1); (have z2 : wS.cell? ⟨w.heap.size, 2, none⟩ = some (.slice a t.kids.length cap) := g3.cell 2); go_simp; try with_reducible rfl
    try simp only [Act.put, List.setIfInBounds_toArray, List.set_cons_zero, List.set_cons_succ]
    refine Go.Shr.wpAnyF_ready [6] (by kernel_rfl) (by simp) ?_
    refine Go.Shr.AllReadyF.cons 6 (o := { dst := some 26, op := Go.Op.call { callee := Go.Callee.value (Go.Operand.func 53), args := #[Go.Operand.tmp 24, Go.Operand.tmp 25], argTypes := #[3, 48] }, type := 3, pos := "ref.go:36", after := #[{ on := 4, ground := Go.Ground.data }, { on := 5, ground := Go.Ground.data }], guard := none }) rfl (fun K hK => ?g14ro7) ?g14rm7
    case g14rm7 => exact Go.Shr.AllReadyF.nil
    go_simp; refine (HLF.out _).mono ?_; rintro e w9 ⟨rfl, hb9⟩; dsimp only
    refine hK.out _ _ ?g14rs7 (fun hHeld => ?g14rt7)
    case g14rs7 => (try dsimp only); (first | exact ⟨p1, r5.drew⟩ | exact ⟨cb hb9 hHeld.1, hHeld.2.below hb9⟩)
    try dsimp only at hHeld
    clear hK K
    try simp only [Act.put, List.setIfInBounds_toArray, List.set_cons_zero, List.set_cons_succ]
    refine Go.Shr.wpAnyF_ready [7] (by kernel_rfl) (by simp) ?_
    refine Go.Shr.AllReadyF.last 7 (o := { dst := some 8, op := Go.Op.assign (Go.Operand.tmp 26), type := 3, pos := "ref.go:36", after := #[{ on := 6, ground := Go.Ground.data }, { on := 6, ground := Go.Ground.chain }, { on := 0, ground := Go.Ground.phase }, { on := 1, ground := Go.Ground.phase }, { on := 2, ground := Go.Ground.phase }, { on := 3, ground := Go.Ground.phase }, { on := 4, ground := Go.Ground.phase }, { on := 5, ground := Go.Ground.phase }, { on := 6, ground := Go.Ground.phase }], guard := none }) rfl (by kernel_rfl) (fun K hK => ?g14ro8) ?g14rm8
    case g14rm8 => exact Go.Shr.AllReadyF.nil
    go_simp
    refine hK.out _ _ ?_
    clear hK K
    try simp only [Act.put, List.setIfInBounds_toArray, List.set_cons_zero, List.set_cons_succ]
    refine Go.Shr.wpAnyF_done (by kernel_rfl) ?_
    go_wp2_with fail
    go_ret
    exact ⟨ret_i HR2.out.symm, bt hbx.drew hb9⟩
theorem rfit_to (l : List Fl) (hw : Wf l) (hG : ∀ (i : Nat) (h : i < l.length), l[i].kind = 0 → l[i].kids = ((KF l i).length : Int)) : ∀ N, RFitTo N l
  | 0 => fun _ h => absurd h (Nat.not_lt_zero _)
  | N + 1 => rfit_step N l hw hG (rfit_to l hw hG N)
/-- The walk of the document's Fits. -/
theorem rFits_v (l : List Fl) (hw : Wf l) (hG : ∀ (i : Nat) (h : i < l.length), l[i].kind = 0 → l[i].kids = ((KF l i).length : Int)) (t : Tr) (sa : Option Addr) (scap : Nat) (a : Option Addr) (cap : Nat) (w : World) (hs : Sl (fun b => b < w.heap.size) w 4 sa l.length scap (fls l)) (hT : TrAt w t [.int .i64 t.n, .string t.s, .slice a t.kids.length cap]) :
    Calls Try.prog 26 #[.slice sa l.length scap, .agg #[.int .i64 t.n, .string t.s, .slice a t.kids.length cap]] w fun e w' => e = .returned (.int .i64 (fitT l (KF l) t 0)) ∧ Below w.heap.size w w' := by
  have hw1 := hw.len; have hw2 := hw.pos
  have HS := Lib.hid hs; have HT := Lib.hid hT; have HW := Lib.hid hw; clear hs hT hw
  go_enter Try.func26, Try.ntmps26
  go_wp2_with fail
  have hbx := ba (b0 w) (.cells #[.int .i64 t.n, .string t.s, .slice a t.kids.length cap] 48)
  have r3 := Rw.new w #[.int .i64 t.n, .string t.s, .slice a t.kids.length cap] 48
  generalize w.alloc (.cells #[.int .i64 t.n, .string t.s, .slice a t.kids.length cap] 48) = wx at hbx r3 ⊢
  have HBX := Lib.hid hbx
  refine Go.Shr.wp_region_F (fun w' => Rw w' w.heap.size #[.int .i64 t.n, .string t.s, .slice a t.kids.length cap] 48) [5] (by kernel_rfl) ?g15rgS (fun hHeld => ?g15rgR)
  case g15rgS => (try dsimp only); (first | exact r3.drew | exact hHeld.below hb1 | exact hHeld.below hb3)
  try dsimp only at hHeld
  refine Go.Shr.wpAnyF_take 0 (oi := { dst := some 5, op := Go.Op.move (Go.Operand.tmp 0), type := 25, pos := "ref.go:65", after := #[], guard := none }) (v := ?g15rv1) rfl (by kernel_rfl) (fun _ _ _ h => h) (by assumption) (by rfl) ?g15ry1 ?g15rr1
  case g15ry1 => intro wS hSw; (have z0 : wS.cell? ⟨w.heap.size, 0, none⟩ = some (.int .i64 t.n) := hSw.cell 0); (have z1 : wS.cell? ⟨w.heap.size, 1, none⟩ = some (.string t.s) := hSw.cell 1); (have z2 : wS.cell? ⟨w.heap.size, 2, none⟩ = some (.slice a t.kids.length cap) := hSw.cell 2); go_simp; try with_reducible rfl
  try simp only [Act.put, List.setIfInBounds_toArray, List.set_cons_zero, List.set_cons_succ]
  refine Go.Shr.wpAnyF_take 1 (oi := { dst := some 6, op := Go.Op.move (Go.Operand.tmp 0), type := 25, pos := "ref.go:65", after := #[], guard := none }) (v := ?g15rv2) rfl (by kernel_rfl) (fun _ _ _ h => h) (by assumption) (by rfl) ?g15ry2 ?g15rr2
  case g15ry2 => intro wS hSw; (have z0 : wS.cell? ⟨w.heap.size, 0, none⟩ = some (.int .i64 t.n) := hSw.cell 0); (have z1 : wS.cell? ⟨w.heap.size, 1, none⟩ = some (.string t.s) := hSw.cell 1); (have z2 : wS.cell? ⟨w.heap.size, 2, none⟩ = some (.slice a t.kids.length cap) := hSw.cell 2); go_simp; try with_reducible rfl
  try simp only [Act.put, List.setIfInBounds_toArray, List.set_cons_zero, List.set_cons_succ]
  refine Go.Shr.wpAnyF_take 3 (oi := { dst := some 8, op := Go.Op.load 48 (Go.Operand.tmp 3), type := 48, pos := "ref.go:65", after := #[], guard := none }) (v := ?g15rv3) rfl (by kernel_rfl) (fun _ _ _ h => h) (by assumption) (by rfl) ?g15ry3 ?g15rr3
  case g15ry3 => intro wS hSw; (have z0 : wS.cell? ⟨w.heap.size, 0, none⟩ = some (.int .i64 t.n) := hSw.cell 0); (have z1 : wS.cell? ⟨w.heap.size, 1, none⟩ = some (.string t.s) := hSw.cell 1); (have z2 : wS.cell? ⟨w.heap.size, 2, none⟩ = some (.slice a t.kids.length cap) := hSw.cell 2); go_simp; try with_reducible rfl
  try simp only [Act.put, List.setIfInBounds_toArray, List.set_cons_zero, List.set_cons_succ]
  refine Go.Shr.wpAnyF_ready [2] (by kernel_rfl) (by simp) ?_
  refine Go.Shr.AllReadyF.cons 2 (o := { dst := some 7, op := Go.Op.call { callee := Go.Callee.value (Go.Operand.func 16), args := #[Go.Operand.tmp 6], argTypes := #[25] }, type := 22, pos := "ref.go:65", after := #[{ on := 1, ground := Go.Ground.data }], guard := none }) rfl (fun K hK => ?g15ro4) ?g15rm4
  case g15rm4 => exact Go.Shr.AllReadyF.nil
  go_simp; refine (refpar_v sa l.length scap l _ (slb HS.out HBX.out.drew) (by omega) HW.out.kids).mono ?_; rintro e w1 ⟨aP, cP, rfl, hpp, hb1⟩; dsimp only
  refine hK.out _ _ ?g15rs4 (fun hHeld => ?g15rt4)
  case g15rs4 => (try dsimp only); (first | exact r3.drew | exact hHeld.below hb1 | exact hHeld.below hb3)
  try dsimp only at hHeld
  clear hK K
  try simp only [Act.put, List.setIfInBounds_toArray, List.set_cons_zero, List.set_cons_succ]
  refine Go.Shr.wpAnyF_ready [4] (by kernel_rfl) (by simp) ?_
  refine Go.Shr.AllReadyF.cons 4 (o := { dst := some 9, op := Go.Op.call { callee := Go.Callee.value (Go.Operand.func 43), args := #[Go.Operand.tmp 5, Go.Operand.tmp 7, Go.Operand.const (Go.Value.int Go.IntKind.i64 0), Go.Operand.tmp 8], argTypes := #[25, 22, 3, 48] }, type := 3, pos := "ref.go:65", after := #[{ on := 0, ground := Go.Ground.data }, { on := 2, ground := Go.Ground.data }, { on := 3, ground := Go.Ground.data }, { on := 2, ground := Go.Ground.chain }], guard := none }) rfl (fun K hK => ?g15ro5) ?g15rm5
  case g15rm5 => exact Go.Shr.AllReadyF.nil
  go_simp; refine (rfit_to l HW.out hG (t.size + 1) t (by omega) 0 (by omega) sa aP scap cP a cap _ (slb HS.out (bt HBX.out.drew hb1)) (Sl.mono (ok' := fun b => b < w1.heap.size) hpp.own.sl (fun k hk _ => hk) (by decide)) (TrAt.below (bt HBX.out.drew hb1) _ _ HT.out)).mono ?_; rintro e w3 ⟨rfl, hb3⟩; dsimp only
  refine hK.out _ _ ?g15rs5 (fun hHeld => ?g15rt5)
  case g15rs5 => (try dsimp only); (first | exact r3.drew | exact hHeld.below hb1 | exact hHeld.below hb3)
  try dsimp only at hHeld
  clear hK K
  try simp only [Act.put, List.setIfInBounds_toArray, List.set_cons_zero, List.set_cons_succ]
  refine Go.Shr.wpAnyF_ready [5] (by kernel_rfl) (by simp) ?_
  refine Go.Shr.AllReadyF.last 5 (o := { dst := some 4, op := Go.Op.assign (Go.Operand.tmp 9), type := 3, pos := "ref.go:65", after := #[{ on := 4, ground := Go.Ground.data }, { on := 4, ground := Go.Ground.chain }, { on := 0, ground := Go.Ground.phase }, { on := 1, ground := Go.Ground.phase }, { on := 2, ground := Go.Ground.phase }, { on := 3, ground := Go.Ground.phase }, { on := 4, ground := Go.Ground.phase }], guard := none }) rfl (by kernel_rfl) (fun K hK => ?g15ro6) ?g15rm6
  case g15rm6 => exact Go.Shr.AllReadyF.nil
  go_simp
  refine hK.out _ _ ?_
  clear hK K
  try simp only [Act.put, List.setIfInBounds_toArray, List.set_cons_zero, List.set_cons_succ]
  refine Go.Shr.wpAnyF_done (by kernel_rfl) ?_
  go_wp2_with fail
  go_ret
  exact ⟨rfl, bt (bt HBX.out.drew hb1) hb3⟩
end Go.Proofs.Ytgpffcgkfgiodaa
