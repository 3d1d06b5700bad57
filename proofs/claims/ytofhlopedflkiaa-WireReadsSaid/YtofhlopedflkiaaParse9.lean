/-
  The walk of wire.Parse.
-/
import Derived.Test.YtofhlopedflkiaaRead9c
set_option linter.unusedSimpArgs false
namespace Go.Proofs.Ytofhlopedflkiaa
open Go.RowKit Go.Shr
/-- What Parse yields. -/
def PRes (D : Except Nat (List Tr)) (x : List Tr) (e : Nat) : Prop := match D with | .ok y => x = y ∧ e = 0 | .error z => e = z ∧ z ≠ 0 ∧ x = []
theorem decR_eq (s : Sh) (bs : List UInt8) : decR s bs = (match rdBind (rdNum 200 4 bs) (fun n r => decX (decT s) n r) with | .error e => .error e | .ok p => if 0 < p.2.length then .error 9 else .ok p.1) := by
  unfold decR rdBind
  cases rdNum 200 4 bs with
  | error z => rfl
  | ok q =>
    obtain ⟨n, r⟩ := q
    dsimp only
    cases decX (decT s) n r <;> rfl
theorem pres {s : Sh} {bs : List UInt8} {x : List Tr} {bs2 : List UInt8} {e2 : Nat} (h : Res 0 (rdBind (rdNum 200 4 bs) (fun n r => decX (decT s) n r)) x bs2 e2) :
    (e2 ≠ 0 → PRes (decR s bs) [] e2) ∧ (e2 = 0 → 0 < bs2.length → PRes (decR s bs) [] 9) ∧ (e2 = 0 → ¬ 0 < bs2.length → PRes (decR s bs) x 0) := by
  unfold Res at h
  rw [if_pos rfl] at h
  rw [decR_eq]
  unfold PRes
  cases hd : rdBind (rdNum 200 4 bs) (fun n r => decX (decT s) n r) with
  | error z =>
    rw [hd] at h
    obtain ⟨rfl, h3⟩ := h
    exact ⟨fun h => ⟨rfl, h, rfl⟩, fun h => absurd h h3, fun h => absurd h h3⟩
  | ok p =>
    obtain ⟨a, r⟩ := p
    rw [hd] at h
    obtain ⟨rfl, rfl, rfl⟩ := h
    refine ⟨fun h => absurd rfl h, fun _ h2 => ?_, fun _ h2 => ?_⟩
    · dsimp only; rw [if_pos h2]; exact ⟨rfl, by decide, rfl⟩
    · dsimp only; rw [if_neg h2]; exact ⟨rfl, rfl⟩
set_option maxHeartbeats 2000000 in
set_option maxRecDepth 100000 in
theorem parse_v (l : List Fl) (sh : Sh) (hS : Sch l sh) (sa : Option Addr) (scap : Nat) (ba' : Option Addr) (bcap : Nat) (bs : List UInt8) (w : World) (hs : Sl (fun b => b < w.heap.size) w 4 sa l.length scap (fls l)) (hb : Sl (fun b => b < w.heap.size) w 1 ba' bs.length bcap (u8s bs)) (hsm : bs.length ≤ 10000000000000) :
    Calls Try.prog 17 #[.slice sa l.length scap, .slice ba' bs.length bcap] w fun en w' => ∃ (x : List Tr) (a : Option Addr) (cap : Nat) (ys : List Value) (e : Nat), en = .returned (.tuple #[.slice a x.length cap, .int .i64 (e : Int)]) ∧ Sl (fun b => w.heap.size ≤ b) w' 3 a x.length cap ys ∧ RowG (fun b => w.heap.size ≤ b) w' x ys ∧ PRes (decR sh bs) x e ∧ Below w.heap.size w w' := by
  have hll : l.length ≤ 1000 := by rw [hS.len]; exact hS.size
  have hlp : 0 < l.length := hS.wf.pos
  have hlp' : (0 : Int) < (l.length : Int) := by omega
  have HS := Lib.hid hs; have HB := Lib.hid hb; have HSC := Lib.hid hS
  clear hs hb hS
  go_enter Try.func17, Try.ntmps17
  go_wp2_with fail
  refine (of_v sa l.length scap l w HS.out hll HSC.out.kids).mono ?_
  rintro e w1 ⟨bk, rfl, hbk, hkids, hb1⟩
  have HB1 := Lib.hid hb1; have HK1 := Lib.hid hkids
  clear hb1 hkids
  go_wp2_with fail
  refine cgen (fun w2 hw2 => ?_)
  have hb2 : Below w1.heap.size w1 w2 := by rw [hw2]; exact ba (b0 w1) _
  have rR : Rw w2 w1.heap.size #[.slice sa l.length scap, .slice (some ⟨bk, 0, none⟩) l.length l.length, .slice ba' bs.length bcap, .int .i64 0] 69 := by rw [hw2]; exact Rw.new w1 _ _
  clear hw2
  have hz1 := HB1.out.size
  have hz2 := hb2.size
  have hrlt := rR.lt
  have hrd : RdS w1.heap.size sa scap bk l w2 bs 0 := by
    refine ⟨⟨ba', bcap, rR, ?_⟩, ⟨?_, ?_, hbk, by omega⟩, hsm⟩
    · exact Sl.go (Chg.ofBelow (bt HB1.out hb2)) (fun k hk h => ⟨by omega, by omega⟩) HB.out (by decide)
    · exact Sl.go (Chg.ofBelow (bt HB1.out hb2)) (fun k hk h => ⟨by omega, by omega⟩) HS.out (by decide)
    · intro k hk
      obtain ⟨a, c, h1, h2⟩ := HK1.out k hk
      exact ⟨a, c, cb hb2 h1, Sl.go (Chg.ofBelow hb2) (fun k hk h => ⟨by omega, h⟩) h2 (by decide)⟩
  have HRD := Lib.hid hrd; have HB2 := Lib.hid (bt HB1.out hb2)
  have hR : w.heap.size ≤ w1.heap.size := hz1
  generalize w1.heap.size = R at *
  clear hb2 rR hrd HK1
  refine (number_v R sa scap bk l bs 0 200 4 w2 HRD.out (by decide) (by decide)).mono ?_
  rintro e w3 ⟨n, bs1, e1, rfl, hn, hres1, hr1, hc1⟩
  have HR1 := Lib.hid hr1; have HRES1 := Lib.hid hres1; have HC1 := Lib.hid hc1
  have hz3 := hc1.size
  clear hr1 hres1 hc1
  go_wp2_with fail
  refine (trees_rd R sa scap bk l sh (tree_rd R sa scap bk l hll 1000 sh HSC.out.size) 0 n (by omega) bs1 e1 w3 HSC.out.ix HR1.out).mono ?_
  rintro e w4 ⟨x, a4, c4, ys, bs2, e2, rfl, hs4, hrow4, hres2, hr2, hc2⟩
  have HRES := Lib.hid (pres (HRES1.out.bind hres2))
  have HS4 := Lib.hid (Sl.go (ok' := fun b => w.heap.size ≤ b ∧ b ≠ R) (Chg.refl (fun _ => False) w4) (fun k _ h => ⟨fun h => h, by omega, by omega⟩) hs4 (by decide)); have HW4 := Lib.hid (RowG.go (ok' := fun b => w.heap.size ≤ b ∧ b ≠ R) (Chg.refl (fun _ => False) w4) (fun k _ h => ⟨fun h => h, by omega, by omega⟩) hrow4); have HR2 := Lib.hid hr2
  have hb4 : Below w.heap.size w w4 := Chg.bt HB2.out (HC1.out.trans hc2 (fun _ _ h => h)) (fun i hi h => by omega)
  have HB4 := Lib.hid hb4
  obtain ⟨ba4, bc4, r4, _⟩ := hr2.row
  have q2 : w4.cell? ⟨R, 2, none⟩ = some (.slice ba4 bs2.length bc4) := r4.cell 2
  have q3 : w4.cell? ⟨R, 3, none⟩ = some (.int .i64 (e2 : Int)) := r4.cell 3
  have hz4 := hb4.size
  clear hs4 hrow4 hres2 hr2 hc2 r4 hb4
  by_cases hl : 0 < bs2.length
  · have hl' : (0 : Int) < (bs2.length : Int) := by omega
    go_wp2_with fail
    refine (fail_v R sa scap bk l bs2 e2 9 w4 HR2.out).mono ?_
    rintro e w5 ⟨⟨v, rfl⟩, hr5, hc5⟩
    have HB5 := Lib.hid (Chg.bt HB4.out hc5 (fun i hi h => by omega))
    obtain ⟨ba5, bc5, r5, _⟩ := hr5.row
    have he5 : (if e2 = 0 then 9 else e2) ≠ 0 := by split <;> omega
    have HP : Hid (PRes (decR sh bs) [] (if e2 = 0 then 9 else e2)) := Lib.hid (by
      by_cases h : e2 = 0
      · rw [if_pos h]; exact HRES.out.2.1 h hl
      · rw [if_neg h]; exact HRES.out.1 h)
    generalize (if e2 = 0 then 9 else e2) = e5 at *
    have p3 : w5.cell? ⟨R, 3, none⟩ = some (.int .i64 (e5 : Int)) := r5.cell 3
    have heb : ((e5 : Int) != 0) = true := by simp; omega
    have hec : ((e5 : Int) == 0) = false := beq_eq_false_iff_ne.2 (by omega)
    have HP3 := Lib.hid p3
    clear hr5 hc5 r5 q2 q3 he5 hl hl'
    go_wp2_with fail
    refine Go.Shr.wp_region_F (fun w' => w'.cell? ⟨R, 3, none⟩ = some (.int .i64 (e5 : Int))) [5] (by kernel_rfl) ?g6rgS (fun hHeld => ?g6rgR)
    case g6rgS => (try dsimp only); (exact HP3.out)
    try dsimp only at hHeld
    refine Go.Shr.wpAnyF_take 0 (oi := { dst := some 35, op := Go.Op.move (Go.Operand.tmp 6), type := 67, pos := "wire.go:210", after := #[{ on := 4, ground := Go.Ground.gcOnly Go.Departure.lateStores }], guard := none }) (v := ?g6rv1) rfl (by kernel_rfl) (fun _ _ _ h => h) (by assumption) (by rfl) ?g6ry1 ?g6rr1
    case g6ry1 => intro w hSw; have s1 := hSw; go_simp; try with_reducible rfl
    try simp only [Act.put, List.setIfInBounds_toArray, List.set_cons_zero, List.set_cons_succ]
    refine Go.Shr.wpAnyF_take 1 (oi := { dst := some 36, op := Go.Op.nilCheck (Go.Operand.tmp 35), type := 0, pos := "wire.go:210", after := #[{ on := 0, ground := Go.Ground.data }, { on := 4, ground := Go.Ground.gcOnly Go.Departure.lateStores }], guard := none }) (v := ?g6rv2) rfl (by kernel_rfl) (fun _ _ _ h => h) (by assumption) (by rfl) ?g6ry2 ?g6rr2
    case g6ry2 => intro w hSw; have s1 := hSw; go_simp; try with_reducible rfl
    try simp only [Act.put, List.setIfInBounds_toArray, List.set_cons_zero, List.set_cons_succ]
    refine Go.Shr.wpAnyF_take 2 (oi := { dst := some 37, op := Go.Op.fieldAddr 69 (Go.Operand.tmp 36) 2, type := 0, pos := "wire.go:210", after := #[{ on := 1, ground := Go.Ground.data }, { on := 4, ground := Go.Ground.gcOnly Go.Departure.lateStores }], guard := none }) (v := ?g6rv3) rfl (by kernel_rfl) (fun _ _ _ h => h) (by assumption) (by rfl) ?g6ry3 ?g6rr3
    case g6ry3 => intro w hSw; have s1 := hSw; go_simp; try with_reducible rfl
    try simp only [Act.put, List.setIfInBounds_toArray, List.set_cons_zero, List.set_cons_succ]
    refine Go.Shr.wpAnyF_take 3 (oi := { dst := some 38, op := Go.Op.load 39 (Go.Operand.tmp 37), type := 39, pos := "wire.go:210", after := #[{ on := 2, ground := Go.Ground.data }, { on := 4, ground := Go.Ground.gcOnly Go.Departure.lateStores }], guard := none }) (v := ?g6rv4) rfl (by kernel_rfl) (fun _ _ _ h => h) (by assumption) (by rfl) ?g6ry4 ?g6rr4
    case g6ry4 => intro w hSw; have s1 := hSw; go_simp; try with_reducible rfl
    try simp only [Act.put, List.setIfInBounds_toArray, List.set_cons_zero, List.set_cons_succ]
    refine Go.Shr.wpAnyF_take 4 (oi := { dst := some 4, op := Go.Op.assign (Go.Operand.const (Go.Value.slice none 0 0)), type := 28, pos := "wire.go:210", after := #[{ on := 0, ground := Go.Ground.textOnly Go.Departure.lateStores }, { on := 1, ground := Go.Ground.textOnly Go.Departure.lateStores }, { on := 2, ground := Go.Ground.textOnly Go.Departure.lateStores }, { on := 3, ground := Go.Ground.textOnly Go.Departure.lateStores }], guard := none }) (v := ?g6rv5) rfl (by kernel_rfl) (fun _ _ _ h => h) (by assumption) (by rfl) ?g6ry5 ?g6rr5
    case g6ry5 => intro w hSw; have s1 := hSw; go_simp; try with_reducible rfl
    try simp only [Act.put, List.setIfInBounds_toArray, List.set_cons_zero, List.set_cons_succ]
    refine Go.Shr.wpAnyF_ready [5] (by kernel_rfl) (by simp) ?_
    refine Go.Shr.AllReadyF.last 5 (o := { dst := some 5, op := Go.Op.assign (Go.Operand.tmp 38), type := 39, pos := "wire.go:210", after := #[{ on := 3, ground := Go.Ground.data }, { on := 4, ground := Go.Ground.chain }, { on := 0, ground := Go.Ground.phase }, { on := 1, ground := Go.Ground.phase }, { on := 2, ground := Go.Ground.phase }, { on := 3, ground := Go.Ground.phase }, { on := 4, ground := Go.Ground.phase }], guard := none }) rfl (by kernel_rfl) (fun K hK => ?g6ro6) ?g6rm6
    case g6rm6 => exact Go.Shr.AllReadyF.nil
    go_simp
    refine hK.out _ _ ?_
    clear hK K
    try simp only [Act.put, List.setIfInBounds_toArray, List.set_cons_zero, List.set_cons_succ]
    refine Go.Shr.wpAnyF_done (by kernel_rfl) ?_
    go_wp2_with fail
    go_ret2
    exact ⟨[], none, 0, [], e5, rfl, Sl.nil _ _ _ _, by simp [RowG], HP.out, HB5.out.drew⟩
  · have hl' : ¬ (0 : Int) < (bs2.length : Int) := by omega
    by_cases he : e2 = 0
    · have HP := Lib.hid (HRES.out.2.2 he hl)
      subst he
      clear hl
      go_wp2_with fail
      go_ret2
      exact ⟨x, a4, c4, ys, 0, rfl, HS4.out.mono (fun k _ h => h.1) (by decide), HW4.out.go (Chg.refl (fun _ => False) w4) (fun k _ h => ⟨fun h => h, h.1⟩), HP.out, HB4.out⟩
    · have HP := Lib.hid (HRES.out.1 he)
      have heb : ((e2 : Int) != 0) = true := by simp; omega
      have hec : ((e2 : Int) == 0) = false := beq_eq_false_iff_ne.2 (by omega)
      have HP3 := Lib.hid q3
      clear hl he
      go_wp2_with fail
      refine Go.Shr.wp_region_F (fun w' => w'.cell? ⟨R, 3, none⟩ = some (.int .i64 (e2 : Int))) [5] (by kernel_rfl) ?g7rgS (fun hHeld => ?g7rgR)
      case g7rgS => (try dsimp only); (exact HP3.out)
      try dsimp only at hHeld
      refine Go.Shr.wpAnyF_take 0 (oi := { dst := some 35, op := Go.Op.move (Go.Operand.tmp 6), type := 67, pos := "wire.go:210", after := #[{ on := 4, ground := Go.Ground.gcOnly Go.Departure.lateStores }], guard := none }) (v := ?g7rv1) rfl (by kernel_rfl) (fun _ _ _ h => h) (by assumption) (by rfl) ?g7ry1 ?g7rr1
      case g7ry1 => intro w hSw; have s1 := hSw; go_simp; try with_reducible rfl
      try simp only [Act.put, List.setIfInBounds_toArray, List.set_cons_zero, List.set_cons_succ]
      refine Go.Shr.wpAnyF_take 1 (oi := { dst := some 36, op := Go.Op.nilCheck (Go.Operand.tmp 35), type := 0, pos := "wire.go:210", after := #[{ on := 0, ground := Go.Ground.data }, { on := 4, ground := Go.Ground.gcOnly Go.Departure.lateStores }], guard := none }) (v := ?g7rv2) rfl (by kernel_rfl) (fun _ _ _ h => h) (by assumption) (by rfl) ?g7ry2 ?g7rr2
      case g7ry2 => intro w hSw; have s1 := hSw; go_simp; try with_reducible rfl
      try simp only [Act.put, List.setIfInBounds_toArray, List.set_cons_zero, List.set_cons_succ]
      refine Go.Shr.wpAnyF_take 2 (oi := { dst := some 37, op := Go.Op.fieldAddr 69 (Go.Operand.tmp 36) 2, type := 0, pos := "wire.go:210", after := #[{ on := 1, ground := Go.Ground.data }, { on := 4, ground := Go.Ground.gcOnly Go.Departure.lateStores }], guard := none }) (v := ?g7rv3) rfl (by kernel_rfl) (fun _ _ _ h => h) (by assumption) (by rfl) ?g7ry3 ?g7rr3
      case g7ry3 => intro w hSw; have s1 := hSw; go_simp; try with_reducible rfl
      try simp only [Act.put, List.setIfInBounds_toArray, List.set_cons_zero, List.set_cons_succ]
      refine Go.Shr.wpAnyF_take 3 (oi := { dst := some 38, op := Go.Op.load 39 (Go.Operand.tmp 37), type := 39, pos := "wire.go:210", after := #[{ on := 2, ground := Go.Ground.data }, { on := 4, ground := Go.Ground.gcOnly Go.Departure.lateStores }], guard := none }) (v := ?g7rv4) rfl (by kernel_rfl) (fun _ _ _ h => h) (by assumption) (by rfl) ?g7ry4 ?g7rr4
      case g7ry4 => intro w hSw; have s1 := hSw; go_simp; try with_reducible rfl
      try simp only [Act.put, List.setIfInBounds_toArray, List.set_cons_zero, List.set_cons_succ]
      refine Go.Shr.wpAnyF_take 4 (oi := { dst := some 4, op := Go.Op.assign (Go.Operand.const (Go.Value.slice none 0 0)), type := 28, pos := "wire.go:210", after := #[{ on := 0, ground := Go.Ground.textOnly Go.Departure.lateStores }, { on := 1, ground := Go.Ground.textOnly Go.Departure.lateStores }, { on := 2, ground := Go.Ground.textOnly Go.Departure.lateStores }, { on := 3, ground := Go.Ground.textOnly Go.Departure.lateStores }], guard := none }) (v := ?g7rv5) rfl (by kernel_rfl) (fun _ _ _ h => h) (by assumption) (by rfl) ?g7ry5 ?g7rr5
      case g7ry5 => intro w hSw; have s1 := hSw; go_simp; try with_reducible rfl
      try simp only [Act.put, List.setIfInBounds_toArray, List.set_cons_zero, List.set_cons_succ]
      refine Go.Shr.wpAnyF_ready [5] (by kernel_rfl) (by simp) ?_
      refine Go.Shr.AllReadyF.last 5 (o := { dst := some 5, op := Go.Op.assign (Go.Operand.tmp 38), type := 39, pos := "wire.go:210", after := #[{ on := 3, ground := Go.Ground.data }, { on := 4, ground := Go.Ground.chain }, { on := 0, ground := Go.Ground.phase }, { on := 1, ground := Go.Ground.phase }, { on := 2, ground := Go.Ground.phase }, { on := 3, ground := Go.Ground.phase }, { on := 4, ground := Go.Ground.phase }], guard := none }) rfl (by kernel_rfl) (fun K hK => ?g7ro6) ?g7rm6
      case g7rm6 => exact Go.Shr.AllReadyF.nil
      go_simp
      refine hK.out _ _ ?_
      clear hK K
      try simp only [Act.put, List.setIfInBounds_toArray, List.set_cons_zero, List.set_cons_succ]
      refine Go.Shr.wpAnyF_done (by kernel_rfl) ?_
      go_wp2_with fail
      go_ret2
      exact ⟨[], none, 0, [], e2, rfl, Sl.nil _ _ _ _, by simp [RowG], HP.out, HB4.out.drew⟩
end Go.Proofs.Ytofhlopedflkiaa
