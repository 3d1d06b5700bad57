/-
  The walk of TreeSames.
-/
import Derived.Test.YtdgcgkmejejccaaSameE
import Derived.Test.YtdgcgkmejejccaaSize8
import Derived.Test.YtdgcgkmejejccaaTurn
import Derived.Test.YtdgcgkmejejccaaKnown8
set_option linter.unusedSimpArgs false
namespace Go.Proofs.Ytdgcgkmejejccaa
open Go.RowKit Go.Shr
theorem _root_.Go.Shr.TrAt.ren {W X : World} {t : Tr} {cs : List Value} (hW : W = X) (h : TrAt X t cs) : TrAt W t cs := hW ▸ h
theorem sizeL_set : ∀ (l : List Tr) (j : Nat) (t : Tr), (∀ h : j < l.length, t.size = l[j].size) → sizeL (l.set j t) = sizeL l
  | [], j, t, h => rfl
  | x :: r, 0, t, h => by have := h (by simp); simp at this; simp [sizeL, this]
  | x :: r, j + 1, t, h => by simp only [List.set_cons_succ, sizeL]; rw [sizeL_set r j t (fun h' => h (by simpa using h'))]
theorem sizeLL_set : ∀ (ks : List (List Tr)) (k : Nat) (l : List Tr), (∀ h : k < ks.length, sizeL l = sizeL ks[k]) → sizeLL (ks.set k l) = sizeLL ks
  | [], j, t, h => rfl
  | x :: r, 0, t, h => by have := h (by simp); simp at this; simp [sizeLL, this]
  | x :: r, j + 1, t, h => by simp only [List.set_cons_succ, sizeLL]; rw [sizeLL_set r j t (fun h' => h (by simpa using h'))]
theorem baseT_size (which n : Int) (s : ByteArray) (t : Tr) (hw : which % 6 = 0 ∨ which % 6 = 1 ∨ which % 6 = 2) : (baseT which n s t).size = t.size := by
  rw [trsize_eq, trsize_eq]
  rcases hw with h | h | h
  · rw [baseT, if_pos h]; rfl
  · rw [baseT, if_neg (by omega), if_pos h]; rfl
  · rw [baseT, if_neg (by omega), if_neg (by omega), if_pos h]
    simp [Tr.kids, sizeLL_append, sizeLL, sizeL]
theorem turnT_size (ats : List Int) (which n : Int) (s : ByteArray) (hw : which % 6 = 0 ∨ which % 6 = 1 ∨ which % 6 = 2) : ∀ (f i : Nat) (t : Tr), (turnT ats which n s f i t).size = t.size
  | 0, i, t => baseT_size which n s t hw
  | f + 1, i, t => by
    rw [turnT]
    split
    · rw [trsize_eq, trsize_eq t]
      simp only [Tr.kids]
      congr 1
      refine sizeLL_set _ _ _ (fun h => ?_)
      rw [List.getD_eq_getElem?_getD, List.getElem?_eq_getElem h]
      refine sizeL_set _ _ _ (fun h2 => ?_)
      rw [turnT_size ats which n s hw f (i + 1)]
      simp at h2 ⊢
      rw [List.getElem?_eq_getElem h2]; rfl
    · exact baseT_size which n s t hw
set_option maxHeartbeats 1000000 in
set_option maxRecDepth 100000 in
theorem law_sames (a0 : Option Addr) (n0 c0 : Nat) (z0 : List Int) (a1 : Option Addr) (n1 c1 : Nat) (z1 : List Int) (a2 : Option Addr) (n2 c2 : Nat) (z2 : List Int) (which n : Int) (w : World) (h0 : Sl (fun b => b < w.heap.size) w 1 a0 n0 c0 (ints z0)) (w0 : ∀ z ∈ z0, (Lit.int .i64 z).wf = true) (h1 : Sl (fun b => b < w.heap.size) w 1 a1 n1 c1 (ints z1)) (w1 : ∀ z ∈ z1, (Lit.int .i64 z).wf = true) (h2 : Sl (fun b => b < w.heap.size) w 1 a2 n2 c2 (ints z2)) (w2 : ∀ z ∈ z2, (Lit.int .i64 z).wf = true) (_ : (Lit.int .i64 which).wf = true) (_ : (Lit.int .i64 n).wf = true) :
    Calls Try.prog 8 #[.slice a0 n0 c0, .slice a1 n1 c1, .slice a2 n2 c2, .int .i64 which, .int .i64 n] w fun e w' => e = .returned (.bool true) ∧ Below w.heap.size w w' := by
  have H0 := Lib.hid h0; have H1 := Lib.hid h1; have H2 := Lib.hid h2; have W0 := Lib.hid w0; have W1 := Lib.hid w1; have W2 := Lib.hid w2
  clear h0 h1 h2 w0 w1 w2
  go_enter Try.func8, Try.ntmps8
  go_wp2_with fail
  refine (known8 _).mono ?_
  rintro e w1 ⟨rfl, hb1⟩
  have HB1 := Lib.hid hb1; clear hb1
  go_wp2_with fail
  refine (make5 a0 n0 c0 z0 w1 (slb H0.out HB1.out) W0.out).mono ?_
  rintro e w2 ⟨a, cap, rfl, ho, hb2⟩
  have HSC := Lib.hid (Sl.mono (ok' := fun b => b < w2.heap.size) ho.sl (fun k hk _ => hk) (by decide))
  have HB2 := Lib.hid (bt HB1.out hb2)
  clear ho hb2
  go_wp2_with fail
  refine (make8 a cap (makeL z0) (makeSh z0) a1 n1 c1 z1 w2 (make_sch z0) HSC.out (slb H1.out HB2.out) W1.out).mono ?_
  rintro e w3 ⟨at', m, tcap, rfl, ht, hb3⟩
  have hsz := makeT_size z0 z1
  have hthin := thin_makeT z0 z1
  have HM0 := Lib.hid (fun (W : World) (hx : Sl (fun b => b < W.heap.size) W 4 a (makeL z0).length cap (fls (makeL z0))) (hy : Sl (fun b => b < W.heap.size) W 1 a1 n1 c1 (ints z1)) => make8 a cap (makeL z0) (makeSh z0) a1 n1 c1 z1 W (make_sch z0) hx hy W1.out)
  generalize makeT (makeSh z0) z1 = tt at *
  have hta := ht.at
  obtain ⟨_, _, _, xs, hcs, hm, hss, hsl, hk⟩ := hta.parts
  simp at hcs
  obtain ⟨rfl, rfl, rfl⟩ := hcs
  subst hm
  have HM : Hid (∀ W : World, Sl (fun b => b < W.heap.size) W 4 a (makeL z0).length cap (fls (makeL z0)) → Sl (fun b => b < W.heap.size) W 1 a1 n1 c1 (ints z1) → Calls Try.prog 13 #[.slice a (makeL z0).length cap, .slice a1 n1 c1] W fun e w' => ∃ a3 c3, e = .returned (.agg #[.int .i64 tt.n, .string tt.s, .slice a3 tt.kids.length c3]) ∧ TrAt w' tt [.int .i64 tt.n, .string tt.s, .slice a3 tt.kids.length c3] ∧ Below W.heap.size W w') := Lib.hid (fun W hx hy => (HM0.out W hx hy).mono (by
    rintro e w3 ⟨a3, m3, c3, rfl, ht3, hb3⟩
    obtain ⟨_, _, _, _, hcs, hm, _, _, _⟩ := ht3.parts
    simp at hcs
    obtain ⟨rfl, rfl, rfl⟩ := hcs
    subst hm
    exact ⟨a3, c3, rfl, ht3.at, hb3⟩))
  clear HM0
  have HB3 := Lib.hid (bt HB2.out hb3)
  have HSC3 := Lib.hid (slb HSC.out hb3)
  have HT := Lib.hid hta; have HTH := Lib.hid hthin
  have HTR := Lib.hid ht
  clear ht hb3 hta hsl hk HSC HB2 hthin
  go_upto_region 5 with fail
  obtain ⟨wB, hwB⟩ : ∃ wB, wB = w3.alloc (.cells #[.int .i64 tt.n, .string tt.s, .slice at' tt.kids.length tcap] 25) := ⟨_, rfl⟩
  have hb4 : Below w3.heap.size w3 wB := by rw [hwB]; exact ba (b0 w3) _
  have rB : Rw wB w3.heap.size #[.int .i64 tt.n, .string tt.s, .slice at' tt.kids.length tcap] 25 := by rw [hwB]; exact Rw.new w3 _ _
  rw [← hwB]
  clear hwB
  have HBB := Lib.hid (bt HB3.out hb4); have HTB := Lib.hid (TrAt.below hb4 _ _ HT.out); have HSCB := Lib.hid (slb HSC3.out hb4)
  have HR12 := Lib.hid rB
  have HTG := Lib.hid (HTR.out.go (ok' := fun b => b < wB.heap.size) (Chg.ofBelow hb4) (fun b hb h => ⟨by omega, by have := hb4.size; omega⟩))
  clear HTR
  have hT1 := rB.lt
  generalize w3.heap.size = T at *
  clear hb4 rB HB3 HT HSC3
  have hw6 : which % 3 % 6 = 0 ∨ which % 3 % 6 = 1 ∨ which % 3 % 6 = 2 := by omega
  obtain ⟨s, hsd⟩ : ∃ s : ByteArray, s = ⟨#[111, 116, 104, 101, 114]⟩ := ⟨_, rfl⟩
  have hu := turnT_size z2 (which % 3) n s hw6 6 0 tt
  have HTURN : Hid (TurnOk a2 n2 c2 z2 (which % 3) n s 6 0) := Lib.hid (turn_v a2 n2 c2 z2 (which % 3) n s W2.out (by rw [hsd]; decide) hw6 6 0 rfl)
  go_cut [13] from 21 to 26 (fun v13 wc => ∃ (u : Tr) (b13 : Nat) (a9 : Option Addr) (c9 : Nat), v13 = .pointer (some ⟨b13, 0, none⟩) ∧ u.size = tt.size ∧ Hid (Rw wc T #[.int .i64 tt.n, .string tt.s, .slice at' tt.kids.length tcap] 25) ∧ Hid (Rw wc b13 #[.int .i64 u.n, .string u.s, .slice a9 u.kids.length c9] 25) ∧ Hid (TrAt wc tt [.int .i64 tt.n, .string tt.s, .slice at' tt.kids.length tcap]) ∧ Hid (TrAt wc u [.int .i64 u.n, .string u.s, .slice a9 u.kids.length c9]) ∧ Hid (Below wB.heap.size wB wc))
  case first =>
    subst hsd
    generalize hut : turnT z2 (which % 3) n ⟨#[111, 116, 104, 101, 114]⟩ 6 0 tt = u at *
    have HUT := Lib.hid hut
    clear hut
    go_wp2_with fail
    have q0 : wB.cell? ⟨T, 0, none⟩ = some (.int .i64 tt.n) := HR12.out.cell 0
    have q1 : wB.cell? ⟨T, 1, none⟩ = some (.string tt.s) := HR12.out.cell 1
    have q2 : wB.cell? ⟨T, 2, none⟩ = some (.slice at' tt.kids.length tcap) := HR12.out.cell 2
    have HQ := Lib.hid (And.intro q0 (And.intro q1 q2))
    clear q0 q1 q2
    refine Go.Shr.wp_region_F (fun w' => w'.cell? ⟨T, 0, none⟩ = some (.int .i64 tt.n) ∧ w'.cell? ⟨T, 1, none⟩ = some (.string tt.s) ∧ w'.cell? ⟨T, 2, none⟩ = some (.slice at' tt.kids.length tcap)) [7] (by kernel_rfl) ?g1rgS (fun hHeld => ?g1rgR)
    case g1rgS => (try dsimp only); (first | exact HQ.out | exact ⟨cb HB.out HQ.out.1, cb HB.out HQ.out.2.1, cb HB.out HQ.out.2.2⟩ | exact ⟨r12.cell 0, r12.cell 1, r12.cell 2⟩)
    try dsimp only at hHeld
    obtain ⟨W, hW⟩ : ∃ W, W = wB.drew := ⟨_, rfl⟩; rw [← hW] at hHeld ⊢; (have r12 := Rw.ren hW (HR12.out.drew)); (have HB := Go.Shr.Below.ren hW ((b0 wB).drew)); (have HG : TrG (fun b => b < wB.heap.size) W tt [.int .i64 tt.n, .string tt.s, .slice at' tt.kids.length tcap] := by rw [hW]; exact HTG.out.go (Chg.ofBelow (b0 wB).drew) (fun b hb h => ⟨by omega, h⟩)); clear hW
    refine Go.Shr.wpAnyF_take 0 (oi := { dst := some 21, op := Go.Op.load 25 (Go.Operand.tmp 12), type := 25, pos := "law.go:173", after := #[], guard := none }) (v := ?g1rv1) rfl (by kernel_rfl) (fun _ _ _ h => h) (by assumption) (by rfl) ?g1ry1 ?g1rr1
    case g1ry1 => intro w hSw; obtain ⟨s1, s2, s3⟩ := hSw; go_simp; try with_reducible rfl
    try simp only [Act.put, List.setIfInBounds_toArray, List.set_cons_zero, List.set_cons_succ]
    refine Go.Shr.wpAnyF_take 1 (oi := { dst := some 22, op := Go.Op.move (Go.Operand.tmp 2), type := 22, pos := "law.go:173", after := #[], guard := none }) (v := ?g1rv2) rfl (by kernel_rfl) (fun _ _ _ h => h) (by assumption) (by rfl) ?g1ry2 ?g1rr2
    case g1ry2 => intro w hSw; obtain ⟨s1, s2, s3⟩ := hSw; go_simp; try with_reducible rfl
    try simp only [Act.put, List.setIfInBounds_toArray, List.set_cons_zero, List.set_cons_succ]
    refine Go.Shr.wpAnyF_take 2 (oi := { dst := some 23, op := Go.Op.move (Go.Operand.tmp 3), type := 3, pos := "law.go:173", after := #[], guard := none }) (v := ?g1rv3) rfl (by kernel_rfl) (fun _ _ _ h => h) (by assumption) (by rfl) ?g1ry3 ?g1rr3
    case g1ry3 => intro w hSw; obtain ⟨s1, s2, s3⟩ := hSw; go_simp; try with_reducible rfl
    try simp only [Act.put, List.setIfInBounds_toArray, List.set_cons_zero, List.set_cons_succ]
    refine Go.Shr.wpAnyF_take 4 (oi := { dst := some 25, op := Go.Op.move (Go.Operand.tmp 4), type := 3, pos := "law.go:173", after := #[], guard := none }) (v := ?g1rv4) rfl (by kernel_rfl) (fun _ _ _ h => h) (by assumption) (by rfl) ?g1ry4 ?g1rr4
    case g1ry4 => intro w hSw; obtain ⟨s1, s2, s3⟩ := hSw; go_simp; try with_reducible rfl
    try simp only [Act.put, List.setIfInBounds_toArray, List.set_cons_zero, List.set_cons_succ]
    refine Go.Shr.wpAnyF_ready [3, 6] (by kernel_rfl) (by simp) ?_
    refine Go.Shr.AllReadyF.cons 3 (o := { dst := some 24, op := Go.Op.call { callee := Go.Callee.value (Go.Operand.func 17), args := #[Go.Operand.tmp 23, Go.Operand.const (Go.Value.int Go.IntKind.i64 3)], argTypes := #[3, 3] }, type := 3, pos := "law.go:173", after := #[{ on := 2, ground := Go.Ground.data }], guard := none }) rfl (fun K hK => ?g1ro5) ?g1rm5
    case g1ro5 =>
      go_simp; refine (within_8 which 3 _ (by decide) (by decide)).mono ?_; rintro e w3 ⟨rfl, rfl⟩; dsimp only
      refine hK.out _ _ ?g1rs5 (fun hHeld => ?g1rt5)
      case g1rs5 => (try dsimp only); (first | exact HQ.out | exact ⟨cb HB.out HQ.out.1, cb HB.out HQ.out.2.1, cb HB.out HQ.out.2.2⟩ | exact ⟨r12.cell 0, r12.cell 1, r12.cell 2⟩)
      try dsimp only at hHeld
      clear hK K
      try simp only [Act.put, List.setIfInBounds_toArray, List.set_cons_zero, List.set_cons_succ]
      refine Go.Shr.wpAnyF_ready [5, 6] (by kernel_rfl) (by simp) ?_
      refine Go.Shr.AllReadyF.cons 5 (o := { dst := some 26, op := Go.Op.call { callee := Go.Callee.value (Go.Operand.func 16), args := #[Go.Operand.tmp 21, Go.Operand.tmp 22, Go.Operand.const (Go.Value.int Go.IntKind.i64 0), Go.Operand.tmp 24, Go.Operand.tmp 25, Go.Operand.const (Go.Value.string { data := #[111, 116, 104, 101, 114] })], argTypes := #[25, 22, 3, 3, 3, 9] }, type := 25, pos := "law.go:173", after := #[{ on := 0, ground := Go.Ground.data }, { on := 1, ground := Go.Ground.data }, { on := 3, ground := Go.Ground.data }, { on := 4, ground := Go.Ground.data }, { on := 3, ground := Go.Ground.chain }], guard := none }) rfl (fun K hK => ?g1ro6) ?g1rm6
      case g1ro6 =>
        go_simp; refine (HTURN.out (fun b => b < wB.heap.size) tt at' tcap _ HTH.out HG (fun b hb => by have := HB.size; omega) (slb H2.out (bt HBB.out HB))).mono ?_; rintro e w5 ⟨a9, m9, c9, rfl, ht9, hb9⟩; rw [HUT.out] at ht9 ⊢; (obtain ⟨_, _, _, _, hcs, hm, _, _, _⟩ := ht9.parts); simp at hcs; (obtain ⟨rfl, rfl, rfl⟩ := hcs); subst hm; dsimp only; refine gen_w (fun W hW => ?_);  (have HU : TrG (fun _ => True) W u [.int .i64 u.n, .string u.s, .slice a9 u.kids.length c9] := by (rw [hW]; exact ht9.go (Chg.refl (fun _ => False) _) (fun b hb h => ⟨fun h => h, trivial⟩))); (replace r12 := Rw.ren hW (Rw.below r12 hb9)); (replace HB := Go.Shr.Below.ren hW (bt HB hb9)); (try replace HG := True.intro); clear hW ht9 hb9
        refine hK.out _ _ ?g1rs6 (fun hHeld => ?g1rt6)
        case g1rs6 => (try dsimp only); (first | exact HQ.out | exact ⟨cb HB.out HQ.out.1, cb HB.out HQ.out.2.1, cb HB.out HQ.out.2.2⟩ | exact ⟨r12.cell 0, r12.cell 1, r12.cell 2⟩)
        try dsimp only at hHeld
        clear hK K
        try simp only [Act.put, List.setIfInBounds_toArray, List.set_cons_zero, List.set_cons_succ]
        refine Go.Shr.wpAnyF_ready [6] (by kernel_rfl) (by simp) ?_
        refine Go.Shr.AllReadyF.cons 6 (o := { dst := some 13, op := Go.Op.alloc 25, type := 0, pos := "law.go:173", after := #[], guard := none }) rfl (fun K hK => ?g1ro7) ?g1rm7
        case g1rm7 => exact Go.Shr.AllReadyF.nil
        (have hx12 := r12.lt); go_simp; refine gen_w (fun X hX => ?_); (obtain ⟨B13, hb13⟩ : ∃ B, B = W.heap.size := ⟨_, rfl⟩); (have r13 := Rw.ren hX (Rw.fresh HB #[.int .i64 0, .string ByteArray.empty, .slice none 0 0] 25));  (have HU : TrG (fun b => b ≠ B13) X u [.int .i64 u.n, .string u.s, .slice a9 u.kids.length c9] := by (rw [hX, hb13]; exact HU.go (Chg.ofBelow (ba (b0 W) _)) (fun b hb h => ⟨by omega, by omega⟩))) ; (replace r12 := Rw.ren hX (Rw.alloc r12 _)); (have hge : wB.heap.size ≤ B13 := by (have := HB.size; omega)); (replace HB := Go.Shr.Below.ren hX (ba HB _)); rw [← hb13] at r13 ⊢; clear hX hb13 hx12
        refine hK.out _ _ ?g1rs7 (fun hHeld => ?g1rt7)
        case g1rs7 => (try dsimp only); (first | exact HQ.out | exact ⟨cb HB.out HQ.out.1, cb HB.out HQ.out.2.1, cb HB.out HQ.out.2.2⟩ | exact ⟨r12.cell 0, r12.cell 1, r12.cell 2⟩)
        try dsimp only at hHeld
        clear hK K
        try simp only [Act.put, List.setIfInBounds_toArray, List.set_cons_zero, List.set_cons_succ]
        refine Go.Shr.wpAnyF_ready [7] (by kernel_rfl) (by simp) ?_
        refine Go.Shr.AllReadyF.last 7 (o := { dst := none, op := Go.Op.store 25 (Go.Operand.tmp 13) (Go.Operand.tmp 26), type := 0, pos := "law.go:173", after := #[{ on := 6, ground := Go.Ground.data }, { on := 5, ground := Go.Ground.data }, { on := 5, ground := Go.Ground.chain }, { on := 0, ground := Go.Ground.phase }, { on := 1, ground := Go.Ground.phase }, { on := 2, ground := Go.Ground.phase }, { on := 3, ground := Go.Ground.phase }, { on := 4, ground := Go.Ground.phase }, { on := 5, ground := Go.Ground.phase }, { on := 6, ground := Go.Ground.phase }], guard := none }) rfl (by kernel_rfl) (fun K hK => ?g1ro8) ?g1rm8
        case g1rm8 => exact Go.Shr.AllReadyF.nil
        (have y0 := r13.cell 0); (have y1 := r13.cell 1); (have y2 := r13.cell 2); (simp only [List.getElem?_toArray, List.getElem?_cons_zero, List.getElem?_cons_succ] at y0 y1 y2); (have qf := r13.frozen); (have ql := r13.lt); go_simp; clear y0 y1 y2 qf ql
        refine hK.out _ _ ?_
        clear hK K
        try simp only [Act.put, List.setIfInBounds_toArray, List.set_cons_zero, List.set_cons_succ]
        refine Go.Shr.wpAnyF_done (by kernel_rfl) ?_
        have HF := bset3 HB hge (u0 := .int .i64 u.n) (u1 := .string u.s) (u2 := .slice a9 u.kids.length c9)
        go_wp2_with fail
        go_meet
        case rel => exact ⟨u, B13, a9, c9, rfl, hu, Lib.hid (r12.other3 (by omega)), Lib.hid r13.set3, Lib.hid (HTG.out.go (Chg.ofBelow HF) (fun b hb h => ⟨by omega, h⟩)).at, Lib.hid (HU.go (cset3 (Chg.refl (fun b => b = B13) _) rfl) (fun b hb h => ⟨h, h⟩)).at, Lib.hid HF⟩
      case g1rm6 =>
      refine Go.Shr.AllReadyF.cons 6 (o := { dst := some 13, op := Go.Op.alloc 25, type := 0, pos := "law.go:173", after := #[], guard := none }) rfl (fun K hK => ?g1ro9) ?g1rm9
      case g1ro9 =>
        (have hx12 := r12.lt); go_simp; refine gen_w (fun X hX => ?_); (obtain ⟨B13, hb13⟩ : ∃ B, B = W.heap.size := ⟨_, rfl⟩); (have r13 := Rw.ren hX (Rw.fresh HB #[.int .i64 0, .string ByteArray.empty, .slice none 0 0] 25));  (have HG : TrG (fun b => b < wB.heap.size) X tt [.int .i64 tt.n, .string tt.s, .slice at' tt.kids.length tcap] := by (rw [hX]; exact HG.go (Chg.ofBelow (ba (b0 W) _)) (fun b hb h => ⟨by omega, h⟩))); (replace r12 := Rw.ren hX (Rw.alloc r12 _)); (have hge : wB.heap.size ≤ B13 := by (have := HB.size; omega)); (replace HB := Go.Shr.Below.ren hX (ba HB _)); rw [← hb13] at r13 ⊢; clear hX hb13 hx12
        refine hK.out _ _ ?g1rs9 (fun hHeld => ?g1rt9)
        case g1rs9 => (try dsimp only); (first | exact HQ.out | exact ⟨cb HB.out HQ.out.1, cb HB.out HQ.out.2.1, cb HB.out HQ.out.2.2⟩ | exact ⟨r12.cell 0, r12.cell 1, r12.cell 2⟩)
        try dsimp only at hHeld
        clear hK K
        try simp only [Act.put, List.setIfInBounds_toArray, List.set_cons_zero, List.set_cons_succ]
        refine Go.Shr.wpAnyF_ready [5] (by kernel_rfl) (by simp) ?_
        refine Go.Shr.AllReadyF.cons 5 (o := { dst := some 26, op := Go.Op.call { callee := Go.Callee.value (Go.Operand.func 16), args := #[Go.Operand.tmp 21, Go.Operand.tmp 22, Go.Operand.const (Go.Value.int Go.IntKind.i64 0), Go.Operand.tmp 24, Go.Operand.tmp 25, Go.Operand.const (Go.Value.string { data := #[111, 116, 104, 101, 114] })], argTypes := #[25, 22, 3, 3, 3, 9] }, type := 25, pos := "law.go:173", after := #[{ on := 0, ground := Go.Ground.data }, { on := 1, ground := Go.Ground.data }, { on := 3, ground := Go.Ground.data }, { on := 4, ground := Go.Ground.data }, { on := 3, ground := Go.Ground.chain }], guard := none }) rfl (fun K hK => ?g1ro10) ?g1rm10
        case g1rm10 => exact Go.Shr.AllReadyF.nil
        go_simp; refine (HTURN.out (fun b => b < wB.heap.size) tt at' tcap _ HTH.out HG (fun b hb => by have := HB.size; omega) (slb H2.out (bt HBB.out HB))).mono ?_; rintro e w5 ⟨a9, m9, c9, rfl, ht9, hb9⟩; rw [HUT.out] at ht9 ⊢; (obtain ⟨_, _, _, _, hcs, hm, _, _, _⟩ := ht9.parts); simp at hcs; (obtain ⟨rfl, rfl, rfl⟩ := hcs); subst hm; dsimp only; refine gen_w (fun W hW => ?_);  (have HU : TrG (fun b => b ≠ B13) W u [.int .i64 u.n, .string u.s, .slice a9 u.kids.length c9] := by (rw [hW]; exact ht9.go (Chg.refl (fun _ => False) _) (fun b hb h => ⟨fun h => h, by have := r13.lt; rcases h with h | h <;> omega⟩))); (replace r13 := Rw.ren hW (Rw.below r13 hb9)) ; (replace r12 := Rw.ren hW (Rw.below r12 hb9)); (replace HB := Go.Shr.Below.ren hW (bt HB hb9)); (try replace HG := True.intro); clear hW ht9 hb9
        refine hK.out _ _ ?g1rs10 (fun hHeld => ?g1rt10)
        case g1rs10 => (try dsimp only); (first | exact HQ.out | exact ⟨cb HB.out HQ.out.1, cb HB.out HQ.out.2.1, cb HB.out HQ.out.2.2⟩ | exact ⟨r12.cell 0, r12.cell 1, r12.cell 2⟩)
        try dsimp only at hHeld
        clear hK K
        try simp only [Act.put, List.setIfInBounds_toArray, List.set_cons_zero, List.set_cons_succ]
        refine Go.Shr.wpAnyF_ready [7] (by kernel_rfl) (by simp) ?_
        refine Go.Shr.AllReadyF.last 7 (o := { dst := none, op := Go.Op.store 25 (Go.Operand.tmp 13) (Go.Operand.tmp 26), type := 0, pos := "law.go:173", after := #[{ on := 6, ground := Go.Ground.data }, { on := 5, ground := Go.Ground.data }, { on := 5, ground := Go.Ground.chain }, { on := 0, ground := Go.Ground.phase }, { on := 1, ground := Go.Ground.phase }, { on := 2, ground := Go.Ground.phase }, { on := 3, ground := Go.Ground.phase }, { on := 4, ground := Go.Ground.phase }, { on := 5, ground := Go.Ground.phase }, { on := 6, ground := Go.Ground.phase }], guard := none }) rfl (by kernel_rfl) (fun K hK => ?g1ro11) ?g1rm11
        case g1rm11 => exact Go.Shr.AllReadyF.nil
        (have y0 := r13.cell 0); (have y1 := r13.cell 1); (have y2 := r13.cell 2); (simp only [List.getElem?_toArray, List.getElem?_cons_zero, List.getElem?_cons_succ] at y0 y1 y2); (have qf := r13.frozen); (have ql := r13.lt); go_simp; clear y0 y1 y2 qf ql
        refine hK.out _ _ ?_
        clear hK K
        try simp only [Act.put, List.setIfInBounds_toArray, List.set_cons_zero, List.set_cons_succ]
        refine Go.Shr.wpAnyF_done (by kernel_rfl) ?_
        have HF := bset3 HB hge (u0 := .int .i64 u.n) (u1 := .string u.s) (u2 := .slice a9 u.kids.length c9)
        go_wp2_with fail
        go_meet
        case rel => exact ⟨u, B13, a9, c9, rfl, hu, Lib.hid (r12.other3 (by omega)), Lib.hid r13.set3, Lib.hid (HTG.out.go (Chg.ofBelow HF) (fun b hb h => ⟨by omega, h⟩)).at, Lib.hid (HU.go (cset3 (Chg.refl (fun b => b = B13) _) rfl) (fun b hb h => ⟨h, h⟩)).at, Lib.hid HF⟩
      case g1rm9 =>
      exact Go.Shr.AllReadyF.nil
    case g1rm5 =>
    refine Go.Shr.AllReadyF.cons 6 (o := { dst := some 13, op := Go.Op.alloc 25, type := 0, pos := "law.go:173", after := #[], guard := none }) rfl (fun K hK => ?g1ro12) ?g1rm12
    case g1ro12 =>
      (have hx12 := r12.lt); go_simp; refine gen_w (fun X hX => ?_); (obtain ⟨B13, hb13⟩ : ∃ B, B = W.heap.size := ⟨_, rfl⟩); (have r13 := Rw.ren hX (Rw.fresh HB #[.int .i64 0, .string ByteArray.empty, .slice none 0 0] 25));  (have HG : TrG (fun b => b < wB.heap.size) X tt [.int .i64 tt.n, .string tt.s, .slice at' tt.kids.length tcap] := by (rw [hX]; exact HG.go (Chg.ofBelow (ba (b0 W) _)) (fun b hb h => ⟨by omega, h⟩))); (replace r12 := Rw.ren hX (Rw.alloc r12 _)); (have hge : wB.heap.size ≤ B13 := by (have := HB.size; omega)); (replace HB := Go.Shr.Below.ren hX (ba HB _)); rw [← hb13] at r13 ⊢; clear hX hb13 hx12
      refine hK.out _ _ ?g1rs12 (fun hHeld => ?g1rt12)
      case g1rs12 => (try dsimp only); (first | exact HQ.out | exact ⟨cb HB.out HQ.out.1, cb HB.out HQ.out.2.1, cb HB.out HQ.out.2.2⟩ | exact ⟨r12.cell 0, r12.cell 1, r12.cell 2⟩)
      try dsimp only at hHeld
      clear hK K
      try simp only [Act.put, List.setIfInBounds_toArray, List.set_cons_zero, List.set_cons_succ]
      refine Go.Shr.wpAnyF_ready [3] (by kernel_rfl) (by simp) ?_
      refine Go.Shr.AllReadyF.cons 3 (o := { dst := some 24, op := Go.Op.call { callee := Go.Callee.value (Go.Operand.func 17), args := #[Go.Operand.tmp 23, Go.Operand.const (Go.Value.int Go.IntKind.i64 3)], argTypes := #[3, 3] }, type := 3, pos := "law.go:173", after := #[{ on := 2, ground := Go.Ground.data }], guard := none }) rfl (fun K hK => ?g1ro13) ?g1rm13
      case g1rm13 => exact Go.Shr.AllReadyF.nil
      go_simp; refine (within_8 which 3 _ (by decide) (by decide)).mono ?_; rintro e w3 ⟨rfl, rfl⟩; dsimp only
      refine hK.out _ _ ?g1rs13 (fun hHeld => ?g1rt13)
      case g1rs13 => (try dsimp only); (first | exact HQ.out | exact ⟨cb HB.out HQ.out.1, cb HB.out HQ.out.2.1, cb HB.out HQ.out.2.2⟩ | exact ⟨r12.cell 0, r12.cell 1, r12.cell 2⟩)
      try dsimp only at hHeld
      clear hK K
      try simp only [Act.put, List.setIfInBounds_toArray, List.set_cons_zero, List.set_cons_succ]
      refine Go.Shr.wpAnyF_ready [5] (by kernel_rfl) (by simp) ?_
      refine Go.Shr.AllReadyF.cons 5 (o := { dst := some 26, op := Go.Op.call { callee := Go.Callee.value (Go.Operand.func 16), args := #[Go.Operand.tmp 21, Go.Operand.tmp 22, Go.Operand.const (Go.Value.int Go.IntKind.i64 0), Go.Operand.tmp 24, Go.Operand.tmp 25, Go.Operand.const (Go.Value.string { data := #[111, 116, 104, 101, 114] })], argTypes := #[25, 22, 3, 3, 3, 9] }, type := 25, pos := "law.go:173", after := #[{ on := 0, ground := Go.Ground.data }, { on := 1, ground := Go.Ground.data }, { on := 3, ground := Go.Ground.data }, { on := 4, ground := Go.Ground.data }, { on := 3, ground := Go.Ground.chain }], guard := none }) rfl (fun K hK => ?g1ro14) ?g1rm14
      case g1rm14 => exact Go.Shr.AllReadyF.nil
      go_simp; refine (HTURN.out (fun b => b < wB.heap.size) tt at' tcap _ HTH.out HG (fun b hb => by have := HB.size; omega) (slb H2.out (bt HBB.out HB))).mono ?_; rintro e w5 ⟨a9, m9, c9, rfl, ht9, hb9⟩; rw [HUT.out] at ht9 ⊢; (obtain ⟨_, _, _, _, hcs, hm, _, _, _⟩ := ht9.parts); simp at hcs; (obtain ⟨rfl, rfl, rfl⟩ := hcs); subst hm; dsimp only; refine gen_w (fun W hW => ?_);  (have HU : TrG (fun b => b ≠ B13) W u [.int .i64 u.n, .string u.s, .slice a9 u.kids.length c9] := by (rw [hW]; exact ht9.go (Chg.refl (fun _ => False) _) (fun b hb h => ⟨fun h => h, by have := r13.lt; rcases h with h | h <;> omega⟩))); (replace r13 := Rw.ren hW (Rw.below r13 hb9)) ; (replace r12 := Rw.ren hW (Rw.below r12 hb9)); (replace HB := Go.Shr.Below.ren hW (bt HB hb9)); (try replace HG := True.intro); clear hW ht9 hb9
      refine hK.out _ _ ?g1rs14 (fun hHeld => ?g1rt14)
      case g1rs14 => (try dsimp only); (first | exact HQ.out | exact ⟨cb HB.out HQ.out.1, cb HB.out HQ.out.2.1, cb HB.out HQ.out.2.2⟩ | exact ⟨r12.cell 0, r12.cell 1, r12.cell 2⟩)
      try dsimp only at hHeld
      clear hK K
      try simp only [Act.put, List.setIfInBounds_toArray, List.set_cons_zero, List.set_cons_succ]
      refine Go.Shr.wpAnyF_ready [7] (by kernel_rfl) (by simp) ?_
      refine Go.Shr.AllReadyF.last 7 (o := { dst := none, op := Go.Op.store 25 (Go.Operand.tmp 13) (Go.Operand.tmp 26), type := 0, pos := "law.go:173", after := #[{ on := 6, ground := Go.Ground.data }, { on := 5, ground := Go.Ground.data }, { on := 5, ground := Go.Ground.chain }, { on := 0, ground := Go.Ground.phase }, { on := 1, ground := Go.Ground.phase }, { on := 2, ground := Go.Ground.phase }, { on := 3, ground := Go.Ground.phase }, { on := 4, ground := Go.Ground.phase }, { on := 5, ground := Go.Ground.phase }, { on := 6, ground := Go.Ground.phase }], guard := none }) rfl (by kernel_rfl) (fun K hK => ?g1ro15) ?g1rm15
      case g1rm15 => exact Go.Shr.AllReadyF.nil
      (have y0 := r13.cell 0); (have y1 := r13.cell 1); (have y2 := r13.cell 2); (simp only [List.getElem?_toArray, List.getElem?_cons_zero, List.getElem?_cons_succ] at y0 y1 y2); (have qf := r13.frozen); (have ql := r13.lt); go_simp; clear y0 y1 y2 qf ql
      refine hK.out _ _ ?_
      clear hK K
      try simp only [Act.put, List.setIfInBounds_toArray, List.set_cons_zero, List.set_cons_succ]
      refine Go.Shr.wpAnyF_done (by kernel_rfl) ?_
      have HF := bset3 HB hge (u0 := .int .i64 u.n) (u1 := .string u.s) (u2 := .slice a9 u.kids.length c9)
      go_wp2_with fail
      go_meet
      case rel => exact ⟨u, B13, a9, c9, rfl, hu, Lib.hid (r12.other3 (by omega)), Lib.hid r13.set3, Lib.hid (HTG.out.go (Chg.ofBelow HF) (fun b hb h => ⟨by omega, h⟩)).at, Lib.hid (HU.go (cset3 (Chg.refl (fun b => b = B13) _) rfl) (fun b hb h => ⟨h, h⟩)).at, Lib.hid HF⟩
    case g1rm12 =>
    exact Go.Shr.AllReadyF.nil
  case rest =>
    obtain ⟨u, b13, a9, c9, rfl, husz, HRT, HRU, HTT, HTU, HF⟩ := hcut
    have hst : sameT tt tt = true := (sameT_iff tt tt).2 rfl
    have HST := Lib.hid hst
    clear hst
    have e1 : (sameT tt u == sameT tt u) = true := beq_iff_eq.2 rfl
    have e2 : (sameT u tt == sameT u tt) = true := beq_iff_eq.2 rfl
    generalize hB1 : sameT tt u = B1 at *
    generalize hB2 : sameT u tt = B2 at *
    have HB1' := Lib.hid hB1; have HB2' := Lib.hid hB2
    clear hB1 hB2 HTURN hu hw6 hsd HTG HR12 HTB H0 H2 W0 W1 W2 HTH
    go_wp2_with fail
    have r12 := HRT.out; have r13 := HRU.out; have HB := HF.out
    clear HRT HRU HF
    refine Go.Shr.wp_region_F (fun w' => w'.cell? ⟨T, 0, none⟩ = some (.int .i64 tt.n) ∧ w'.cell? ⟨T, 1, none⟩ = some (.string tt.s) ∧ w'.cell? ⟨T, 2, none⟩ = some (.slice at' tt.kids.length tcap) ∧ w'.cell? ⟨b13, 0, none⟩ = some (.int .i64 u.n) ∧ w'.cell? ⟨b13, 1, none⟩ = some (.string u.s) ∧ w'.cell? ⟨b13, 2, none⟩ = some (.slice a9 u.kids.length c9)) [37] (by kernel_rfl) ?g2rgS (fun hHeld => ?g2rgR)
    case g2rgS => (try dsimp only); (exact ⟨r12.cell 0, r12.cell 1, r12.cell 2, r13.cell 0, r13.cell 1, r13.cell 2⟩)
    try dsimp only at hHeld
    obtain ⟨W, hW⟩ : ∃ W, W = wc.drew := ⟨_, rfl⟩; rw [← hW] at hHeld ⊢; (replace r12 := Rw.ren hW r12.drew); (replace r13 := Rw.ren hW r13.drew); (replace HTT := Lib.hid (TrAt.ren hW (TrAt.below (b0 wc).drew _ _ HTT.out))); (replace HTU := Lib.hid (TrAt.ren hW (TrAt.below (b0 wc).drew _ _ HTU.out))); (replace HB := Go.Shr.Below.ren hW HB.drew); clear hW
    refine Go.Shr.wpAnyF_take 0 (oi := { dst := some 27, op := Go.Op.load 25 (Go.Operand.tmp 12), type := 25, pos := "law.go:174", after := #[], guard := none }) (v := ?g2rv1) rfl (by kernel_rfl) (fun _ _ _ h => h) (by assumption) (by rfl) ?g2ry1 ?g2rr1
    case g2ry1 => intro w hSw; obtain ⟨s1, s2, s3, s4, s5, s6⟩ := hSw; go_simp; try with_reducible rfl
    try simp only [Act.put, List.setIfInBounds_toArray, List.set_cons_zero, List.set_cons_succ]
    refine Go.Shr.wpAnyF_take 1 (oi := { dst := some 28, op := Go.Op.move (Go.Operand.tmp 11), type := 29, pos := "law.go:174", after := #[], guard := none }) (v := ?g2rv2) rfl (by kernel_rfl) (fun _ _ _ h => h) (by assumption) (by rfl) ?g2ry2 ?g2rr2
    case g2ry2 => intro w hSw; obtain ⟨s1, s2, s3, s4, s5, s6⟩ := hSw; go_simp; try with_reducible rfl
    try simp only [Act.put, List.setIfInBounds_toArray, List.set_cons_zero, List.set_cons_succ]
    refine Go.Shr.wpAnyF_take 2 (oi := { dst := some 29, op := Go.Op.move (Go.Operand.tmp 1), type := 22, pos := "law.go:174", after := #[], guard := none }) (v := ?g2rv3) rfl (by kernel_rfl) (fun _ _ _ h => h) (by assumption) (by rfl) ?g2ry3 ?g2rr3
    case g2ry3 => intro w hSw; obtain ⟨s1, s2, s3, s4, s5, s6⟩ := hSw; go_simp; try with_reducible rfl
    try simp only [Act.put, List.setIfInBounds_toArray, List.set_cons_zero, List.set_cons_succ]
    refine Go.Shr.wpAnyF_ready [3] (by kernel_rfl) (by simp) ?_
    refine Go.Shr.AllReadyF.cons 3 (o := { dst := some 30, op := Go.Op.call { callee := Go.Callee.value (Go.Operand.func 13), args := #[Go.Operand.tmp 28, Go.Operand.tmp 29], argTypes := #[29, 22] }, type := 25, pos := "law.go:174", after := #[{ on := 1, ground := Go.Ground.data }, { on := 2, ground := Go.Ground.data }], guard := none }) rfl (fun K hK => ?g2ro4) ?g2rm4
    case g2rm4 => exact Go.Shr.AllReadyF.nil
    go_simp; refine (HM.out _ (slb HSCB.out HB) (slb H1.out (bt HBB.out HB))).mono ?_; rintro e w3' ⟨a3, c3, rfl, ht3, hb3⟩; have H3 := Lib.hid ht3; clear ht3; dsimp only; refine gen_w (fun W hW => ?_); (replace r12 := Rw.ren hW (Rw.below r12 hb3)); (replace r13 := Rw.ren hW (Rw.below r13 hb3)); (replace HTT := Lib.hid (TrAt.ren hW (TrAt.below hb3 _ _ HTT.out))); (replace HTU := Lib.hid (TrAt.ren hW (TrAt.below hb3 _ _ HTU.out))); (replace H3 := Lib.hid (TrAt.ren hW H3.out)); (replace HB := Go.Shr.Below.ren hW (bt HB hb3)); clear hW hb3
    refine hK.out _ _ ?g2rs4 (fun hHeld => ?g2rt4)
    case g2rs4 => (try dsimp only); (exact ⟨r12.cell 0, r12.cell 1, r12.cell 2, r13.cell 0, r13.cell 1, r13.cell 2⟩)
    try dsimp only at hHeld
    clear hK K
    try simp only [Act.put, List.setIfInBounds_toArray, List.set_cons_zero, List.set_cons_succ]
    refine Go.Shr.wpAnyF_ready [4] (by kernel_rfl) (by simp) ?_
    refine Go.Shr.AllReadyF.cons 4 (o := { dst := some 31, op := Go.Op.call { callee := Go.Callee.value (Go.Operand.func 20), args := #[Go.Operand.tmp 27, Go.Operand.tmp 30], argTypes := #[25, 25] }, type := 4, pos := "law.go:174", after := #[{ on := 0, ground := Go.Ground.data }, { on := 3, ground := Go.Ground.data }, { on := 3, ground := Go.Ground.chain }], guard := none }) rfl (fun K hK => ?g2ro5) ?g2rm5
    case g2rm5 => exact Go.Shr.AllReadyF.nil
    go_simp; refine (tsame_all (tt.size + 1) tt tt (by omega) at' a3 tcap c3 _ HTT.out H3.out).mono ?_; rintro e w4' ⟨rfl, hb4⟩; (try rw [HST.out]); (try rw [HB1'.out]); (try rw [HB2'.out]); dsimp only; refine gen_w (fun W hW => ?_); (replace r12 := Rw.ren hW (Rw.below r12 hb4)); (replace r13 := Rw.ren hW (Rw.below r13 hb4)); (replace HTT := Lib.hid (TrAt.ren hW (TrAt.below hb4 _ _ HTT.out))); (replace HTU := Lib.hid (TrAt.ren hW (TrAt.below hb4 _ _ HTU.out))); (replace H3 := Lib.hid (TrAt.ren hW (TrAt.below hb4 _ _ H3.out))); (replace HB := Go.Shr.Below.ren hW (bt HB hb4)); clear hW hb4
    refine hK.out _ _ ?g2rs5 (fun hHeld => ?g2rt5)
    case g2rs5 => (try dsimp only); (exact ⟨r12.cell 0, r12.cell 1, r12.cell 2, r13.cell 0, r13.cell 1, r13.cell 2⟩)
    try dsimp only at hHeld
    clear hK K
    try simp only [Act.put, List.setIfInBounds_toArray, List.set_cons_zero, List.set_cons_succ]
    refine Go.Shr.wpAnyF_take 5 (oi := { dst := some 32, op := Go.Op.move (Go.Operand.tmp 31), type := 4, pos := "law.go:174", after := #[{ on := 4, ground := Go.Ground.data }, { on := 4, ground := Go.Ground.chain }], guard := none }) (v := ?g2rv6) rfl (by kernel_rfl) (fun _ _ _ h => h) (by assumption) (by rfl) ?g2ry6 ?g2rr6
    case g2ry6 => intro w hSw; obtain ⟨s1, s2, s3, s4, s5, s6⟩ := hSw; go_simp; try with_reducible rfl
    try simp only [Act.put, List.setIfInBounds_toArray, List.set_cons_zero, List.set_cons_succ]
    first
      | refine Go.Shr.wpAnyF_skip 6 (oi := { dst := some 33, op := Go.Op.load 25 (Go.Operand.tmp 12), type := 25, pos := "law.go:174", after := #[{ on := 5, ground := Go.Ground.guard }], guard := some (5, true) }) rfl (by kernel_rfl) (fun _ _ _ h => h) (by assumption) (by rfl) ?_
      | (refine Go.Shr.wpAnyF_take 6 (oi := { dst := some 33, op := Go.Op.load 25 (Go.Operand.tmp 12), type := 25, pos := "law.go:174", after := #[{ on := 5, ground := Go.Ground.guard }], guard := some (5, true) }) (v := ?g2rv7) rfl (by kernel_rfl) (fun _ _ _ h => h) (by assumption) (by rfl) ?g2ry7 ?g2rr7
         case g2ry7 => intro w hSw; obtain ⟨s1, s2, s3, s4, s5, s6⟩ := hSw; go_simp; try with_reducible rfl)
    try simp only [Act.put, List.setIfInBounds_toArray, List.set_cons_zero, List.set_cons_succ]
    first
      | refine Go.Shr.wpAnyF_skip 7 (oi := { dst := some 34, op := Go.Op.load 25 (Go.Operand.tmp 13), type := 25, pos := "law.go:174", after := #[{ on := 5, ground := Go.Ground.guard }], guard := some (5, true) }) rfl (by kernel_rfl) (fun _ _ _ h => h) (by assumption) (by rfl) ?_
      | (refine Go.Shr.wpAnyF_take 7 (oi := { dst := some 34, op := Go.Op.load 25 (Go.Operand.tmp 13), type := 25, pos := "law.go:174", after := #[{ on := 5, ground := Go.Ground.guard }], guard := some (5, true) }) (v := ?g2rv8) rfl (by kernel_rfl) (fun _ _ _ h => h) (by assumption) (by rfl) ?g2ry8 ?g2rr8
         case g2ry8 => intro w hSw; obtain ⟨s1, s2, s3, s4, s5, s6⟩ := hSw; go_simp; try with_reducible rfl)
    try simp only [Act.put, List.setIfInBounds_toArray, List.set_cons_zero, List.set_cons_succ]
    first
      | refine Go.Shr.wpAnyF_skip 9 (oi := { dst := some 36, op := Go.Op.load 25 (Go.Operand.tmp 12), type := 25, pos := "law.go:174", after := #[{ on := 5, ground := Go.Ground.guard }], guard := some (5, true) }) rfl (by kernel_rfl) (fun _ _ _ h => h) (by assumption) (by rfl) ?_
      | (refine Go.Shr.wpAnyF_take 9 (oi := { dst := some 36, op := Go.Op.load 25 (Go.Operand.tmp 12), type := 25, pos := "law.go:174", after := #[{ on := 5, ground := Go.Ground.guard }], guard := some (5, true) }) (v := ?g2rv9) rfl (by kernel_rfl) (fun _ _ _ h => h) (by assumption) (by rfl) ?g2ry9 ?g2rr9
         case g2ry9 => intro w hSw; obtain ⟨s1, s2, s3, s4, s5, s6⟩ := hSw; go_simp; try with_reducible rfl)
    try simp only [Act.put, List.setIfInBounds_toArray, List.set_cons_zero, List.set_cons_succ]
    first
      | refine Go.Shr.wpAnyF_skip 10 (oi := { dst := some 37, op := Go.Op.load 25 (Go.Operand.tmp 13), type := 25, pos := "law.go:174", after := #[{ on := 5, ground := Go.Ground.guard }], guard := some (5, true) }) rfl (by kernel_rfl) (fun _ _ _ h => h) (by assumption) (by rfl) ?_
      | (refine Go.Shr.wpAnyF_take 10 (oi := { dst := some 37, op := Go.Op.load 25 (Go.Operand.tmp 13), type := 25, pos := "law.go:174", after := #[{ on := 5, ground := Go.Ground.guard }], guard := some (5, true) }) (v := ?g2rv10) rfl (by kernel_rfl) (fun _ _ _ h => h) (by assumption) (by rfl) ?g2ry10 ?g2rr10
         case g2ry10 => intro w hSw; obtain ⟨s1, s2, s3, s4, s5, s6⟩ := hSw; go_simp; try with_reducible rfl)
    try simp only [Act.put, List.setIfInBounds_toArray, List.set_cons_zero, List.set_cons_succ]
    refine Go.Shr.wpAnyF_ready [8] (by kernel_rfl) (by simp) ?_
    refine Go.Shr.AllReadyF.cons 8 (o := { dst := some 35, op := Go.Op.call { callee := Go.Callee.value (Go.Operand.func 20), args := #[Go.Operand.tmp 33, Go.Operand.tmp 34], argTypes := #[25, 25] }, type := 4, pos := "law.go:174", after := #[{ on := 6, ground := Go.Ground.data }, { on := 7, ground := Go.Ground.data }, { on := 5, ground := Go.Ground.chain }, { on := 5, ground := Go.Ground.guard }], guard := some (5, true) }) rfl (fun K hK => ?g2ro11) ?g2rm11
    case g2rm11 => exact Go.Shr.AllReadyF.nil
    go_simp; refine (tsame_all (tt.size + 1) tt u (by omega) at' a9 tcap c9 _ HTT.out HTU.out).mono ?_; rintro e w8' ⟨rfl, hb8⟩; (try rw [HST.out]); (try rw [HB1'.out]); (try rw [HB2'.out]); dsimp only; refine gen_w (fun W hW => ?_); (replace r12 := Rw.ren hW (Rw.below r12 hb8)); (replace r13 := Rw.ren hW (Rw.below r13 hb8)); (replace HTT := Lib.hid (TrAt.ren hW (TrAt.below hb8 _ _ HTT.out))); (replace HTU := Lib.hid (TrAt.ren hW (TrAt.below hb8 _ _ HTU.out))); (replace HB := Go.Shr.Below.ren hW (bt HB hb8)); clear hW hb8
    refine hK.out _ _ ?g2rs11 (fun hHeld => ?g2rt11)
    case g2rs11 => (try dsimp only); (exact ⟨r12.cell 0, r12.cell 1, r12.cell 2, r13.cell 0, r13.cell 1, r13.cell 2⟩)
    try dsimp only at hHeld
    clear hK K
    try simp only [Act.put, List.setIfInBounds_toArray, List.set_cons_zero, List.set_cons_succ]
    refine Go.Shr.wpAnyF_ready [11] (by kernel_rfl) (by simp) ?_
    refine Go.Shr.AllReadyF.cons 11 (o := { dst := some 38, op := Go.Op.call { callee := Go.Callee.value (Go.Operand.func 21), args := #[Go.Operand.tmp 36, Go.Operand.tmp 37], argTypes := #[25, 25] }, type := 4, pos := "law.go:174", after := #[{ on := 9, ground := Go.Ground.data }, { on := 10, ground := Go.Ground.data }, { on := 8, ground := Go.Ground.chain }, { on := 5, ground := Go.Ground.guard }], guard := some (5, true) }) rfl (fun K hK => ?g2ro12) ?g2rm12
    case g2rm12 => exact Go.Shr.AllReadyF.nil
    go_simp; refine (same_all (tt.size + 1) tt u (by omega) at' a9 tcap c9 _ HTT.out HTU.out).mono ?_; rintro e w11' ⟨rfl, hb11⟩; (try rw [HST.out]); (try rw [HB1'.out]); (try rw [HB2'.out]); dsimp only; refine gen_w (fun W hW => ?_); (replace r12 := Rw.ren hW (Rw.below r12 hb11)); (replace r13 := Rw.ren hW (Rw.below r13 hb11)); (replace HTT := Lib.hid (TrAt.ren hW (TrAt.below hb11 _ _ HTT.out))); (replace HTU := Lib.hid (TrAt.ren hW (TrAt.below hb11 _ _ HTU.out))); (replace HB := Go.Shr.Below.ren hW (bt HB hb11)); clear hW hb11
    refine hK.out _ _ ?g2rs12 (fun hHeld => ?g2rt12)
    case g2rs12 => (try dsimp only); (exact ⟨r12.cell 0, r12.cell 1, r12.cell 2, r13.cell 0, r13.cell 1, r13.cell 2⟩)
    try dsimp only at hHeld
    clear hK K
    try simp only [Act.put, List.setIfInBounds_toArray, List.set_cons_zero, List.set_cons_succ]
    first
      | refine Go.Shr.wpAnyF_skip 12 (oi := { dst := some 39, op := Go.Op.binOp Go.BinOp.eql 4 (Go.Operand.tmp 35) (Go.Operand.tmp 38) 4, type := 4, pos := "law.go:174", after := #[{ on := 8, ground := Go.Ground.data }, { on := 11, ground := Go.Ground.data }, { on := 5, ground := Go.Ground.guard }], guard := some (5, true) }) rfl (by kernel_rfl) (fun _ _ _ h => h) (by assumption) (by rfl) ?_
      | (refine Go.Shr.wpAnyF_take 12 (oi := { dst := some 39, op := Go.Op.binOp Go.BinOp.eql 4 (Go.Operand.tmp 35) (Go.Operand.tmp 38) 4, type := 4, pos := "law.go:174", after := #[{ on := 8, ground := Go.Ground.data }, { on := 11, ground := Go.Ground.data }, { on := 5, ground := Go.Ground.guard }], guard := some (5, true) }) (v := ?g2rv13) rfl (by kernel_rfl) (fun _ _ _ h => h) (by assumption) (by rfl) ?g2ry13 ?g2rr13
         case g2ry13 => intro w hSw; obtain ⟨s1, s2, s3, s4, s5, s6⟩ := hSw; go_simp; (try simp only [beq_self_eq_true, decide_true]); (try with_reducible rfl))
    try simp only [Act.put, List.setIfInBounds_toArray, List.set_cons_zero, List.set_cons_succ]
    refine Go.Shr.wpAnyF_take 13 (oi := { dst := some 40, op := Go.Op.pick (Go.Operand.tmp 32) (Go.Operand.tmp 39) (Go.Operand.const (Go.Value.bool false)), type := 4, pos := "law.go:174", after := #[{ on := 5, ground := Go.Ground.data }, { on := 12, ground := Go.Ground.data }], guard := none }) (v := ?g2rv14) rfl (by kernel_rfl) (fun _ _ _ h => h) (by assumption) (by rfl) ?g2ry14 ?g2rr14
    case g2ry14 => intro w hSw; obtain ⟨s1, s2, s3, s4, s5, s6⟩ := hSw; go_simp; try with_reducible rfl
    try simp only [Act.put, List.setIfInBounds_toArray, List.set_cons_zero, List.set_cons_succ]
    refine Go.Shr.wpAnyF_take 14 (oi := { dst := some 41, op := Go.Op.move (Go.Operand.tmp 40), type := 4, pos := "law.go:174", after := #[{ on := 13, ground := Go.Ground.data }, { on := 11, ground := Go.Ground.chain }], guard := none }) (v := ?g2rv15) rfl (by kernel_rfl) (fun _ _ _ h => h) (by assumption) (by rfl) ?g2ry15 ?g2rr15
    case g2ry15 => intro w hSw; obtain ⟨s1, s2, s3, s4, s5, s6⟩ := hSw; go_simp; try with_reducible rfl
    try simp only [Act.put, List.setIfInBounds_toArray, List.set_cons_zero, List.set_cons_succ]
    first
      | refine Go.Shr.wpAnyF_skip 15 (oi := { dst := some 42, op := Go.Op.load 25 (Go.Operand.tmp 13), type := 25, pos := "law.go:174", after := #[{ on := 14, ground := Go.Ground.guard }], guard := some (14, true) }) rfl (by kernel_rfl) (fun _ _ _ h => h) (by assumption) (by rfl) ?_
      | (refine Go.Shr.wpAnyF_take 15 (oi := { dst := some 42, op := Go.Op.load 25 (Go.Operand.tmp 13), type := 25, pos := "law.go:174", after := #[{ on := 14, ground := Go.Ground.guard }], guard := some (14, true) }) (v := ?g2rv16) rfl (by kernel_rfl) (fun _ _ _ h => h) (by assumption) (by rfl) ?g2ry16 ?g2rr16
         case g2ry16 => intro w hSw; obtain ⟨s1, s2, s3, s4, s5, s6⟩ := hSw; go_simp; try with_reducible rfl)
    try simp only [Act.put, List.setIfInBounds_toArray, List.set_cons_zero, List.set_cons_succ]
    first
      | refine Go.Shr.wpAnyF_skip 16 (oi := { dst := some 43, op := Go.Op.load 25 (Go.Operand.tmp 12), type := 25, pos := "law.go:174", after := #[{ on := 14, ground := Go.Ground.guard }], guard := some (14, true) }) rfl (by kernel_rfl) (fun _ _ _ h => h) (by assumption) (by rfl) ?_
      | (refine Go.Shr.wpAnyF_take 16 (oi := { dst := some 43, op := Go.Op.load 25 (Go.Operand.tmp 12), type := 25, pos := "law.go:174", after := #[{ on := 14, ground := Go.Ground.guard }], guard := some (14, true) }) (v := ?g2rv17) rfl (by kernel_rfl) (fun _ _ _ h => h) (by assumption) (by rfl) ?g2ry17 ?g2rr17
         case g2ry17 => intro w hSw; obtain ⟨s1, s2, s3, s4, s5, s6⟩ := hSw; go_simp; try with_reducible rfl)
    try simp only [Act.put, List.setIfInBounds_toArray, List.set_cons_zero, List.set_cons_succ]
    first
      | refine Go.Shr.wpAnyF_skip 18 (oi := { dst := some 45, op := Go.Op.load 25 (Go.Operand.tmp 13), type := 25, pos := "law.go:174", after := #[{ on := 14, ground := Go.Ground.guard }], guard := some (14, true) }) rfl (by kernel_rfl) (fun _ _ _ h => h) (by assumption) (by rfl) ?_
      | (refine Go.Shr.wpAnyF_take 18 (oi := { dst := some 45, op := Go.Op.load 25 (Go.Operand.tmp 13), type := 25, pos := "law.go:174", after := #[{ on := 14, ground := Go.Ground.guard }], guard := some (14, true) }) (v := ?g2rv18) rfl (by kernel_rfl) (fun _ _ _ h => h) (by assumption) (by rfl) ?g2ry18 ?g2rr18
         case g2ry18 => intro w hSw; obtain ⟨s1, s2, s3, s4, s5, s6⟩ := hSw; go_simp; try with_reducible rfl)
    try simp only [Act.put, List.setIfInBounds_toArray, List.set_cons_zero, List.set_cons_succ]
    first
      | refine Go.Shr.wpAnyF_skip 19 (oi := { dst := some 46, op := Go.Op.load 25 (Go.Operand.tmp 12), type := 25, pos := "law.go:174", after := #[{ on := 14, ground := Go.Ground.guard }], guard := some (14, true) }) rfl (by kernel_rfl) (fun _ _ _ h => h) (by assumption) (by rfl) ?_
      | (refine Go.Shr.wpAnyF_take 19 (oi := { dst := some 46, op := Go.Op.load 25 (Go.Operand.tmp 12), type := 25, pos := "law.go:174", after := #[{ on := 14, ground := Go.Ground.guard }], guard := some (14, true) }) (v := ?g2rv19) rfl (by kernel_rfl) (fun _ _ _ h => h) (by assumption) (by rfl) ?g2ry19 ?g2rr19
         case g2ry19 => intro w hSw; obtain ⟨s1, s2, s3, s4, s5, s6⟩ := hSw; go_simp; try with_reducible rfl)
    try simp only [Act.put, List.setIfInBounds_toArray, List.set_cons_zero, List.set_cons_succ]
    refine Go.Shr.wpAnyF_ready [17] (by kernel_rfl) (by simp) ?_
    refine Go.Shr.AllReadyF.cons 17 (o := { dst := some 44, op := Go.Op.call { callee := Go.Callee.value (Go.Operand.func 20), args := #[Go.Operand.tmp 42, Go.Operand.tmp 43], argTypes := #[25, 25] }, type := 4, pos := "law.go:174", after := #[{ on := 15, ground := Go.Ground.data }, { on := 16, ground := Go.Ground.data }, { on := 14, ground := Go.Ground.chain }, { on := 14, ground := Go.Ground.guard }], guard := some (14, true) }) rfl (fun K hK => ?g2ro20) ?g2rm20
    case g2rm20 => exact Go.Shr.AllReadyF.nil
    go_simp; refine (tsame_all (u.size + 1) u tt (by omega) a9 at' c9 tcap _ HTU.out HTT.out).mono ?_; rintro e w17' ⟨rfl, hb17⟩; (try rw [HST.out]); (try rw [HB1'.out]); (try rw [HB2'.out]); dsimp only; refine gen_w (fun W hW => ?_); (replace r12 := Rw.ren hW (Rw.below r12 hb17)); (replace r13 := Rw.ren hW (Rw.below r13 hb17)); (replace HTT := Lib.hid (TrAt.ren hW (TrAt.below hb17 _ _ HTT.out))); (replace HTU := Lib.hid (TrAt.ren hW (TrAt.below hb17 _ _ HTU.out))); (replace HB := Go.Shr.Below.ren hW (bt HB hb17)); clear hW hb17
    refine hK.out _ _ ?g2rs20 (fun hHeld => ?g2rt20)
    case g2rs20 => (try dsimp only); (exact ⟨r12.cell 0, r12.cell 1, r12.cell 2, r13.cell 0, r13.cell 1, r13.cell 2⟩)
    try dsimp only at hHeld
    clear hK K
    try simp only [Act.put, List.setIfInBounds_toArray, List.set_cons_zero, List.set_cons_succ]
    refine Go.Shr.wpAnyF_ready [20] (by kernel_rfl) (by simp) ?_
    refine Go.Shr.AllReadyF.cons 20 (o := { dst := some 47, op := Go.Op.call { callee := Go.Callee.value (Go.Operand.func 21), args := #[Go.Operand.tmp 45, Go.Operand.tmp 46], argTypes := #[25, 25] }, type := 4, pos := "law.go:174", after := #[{ on := 18, ground := Go.Ground.data }, { on := 19, ground := Go.Ground.data }, { on := 17, ground := Go.Ground.chain }, { on := 14, ground := Go.Ground.guard }], guard := some (14, true) }) rfl (fun K hK => ?g2ro21) ?g2rm21
    case g2rm21 => exact Go.Shr.AllReadyF.nil
    go_simp; refine (same_all (u.size + 1) u tt (by omega) a9 at' c9 tcap _ HTU.out HTT.out).mono ?_; rintro e w20' ⟨rfl, hb20⟩; (try rw [HST.out]); (try rw [HB1'.out]); (try rw [HB2'.out]); dsimp only; refine gen_w (fun W hW => ?_); (replace r12 := Rw.ren hW (Rw.below r12 hb20)); (replace r13 := Rw.ren hW (Rw.below r13 hb20)); (replace HTT := Lib.hid (TrAt.ren hW (TrAt.below hb20 _ _ HTT.out))); (replace HTU := Lib.hid (TrAt.ren hW (TrAt.below hb20 _ _ HTU.out))); (replace HB := Go.Shr.Below.ren hW (bt HB hb20)); clear hW hb20
    refine hK.out _ _ ?g2rs21 (fun hHeld => ?g2rt21)
    case g2rs21 => (try dsimp only); (exact ⟨r12.cell 0, r12.cell 1, r12.cell 2, r13.cell 0, r13.cell 1, r13.cell 2⟩)
    try dsimp only at hHeld
    clear hK K
    try simp only [Act.put, List.setIfInBounds_toArray, List.set_cons_zero, List.set_cons_succ]
    first
      | refine Go.Shr.wpAnyF_skip 21 (oi := { dst := some 48, op := Go.Op.binOp Go.BinOp.eql 4 (Go.Operand.tmp 44) (Go.Operand.tmp 47) 4, type := 4, pos := "law.go:174", after := #[{ on := 17, ground := Go.Ground.data }, { on := 20, ground := Go.Ground.data }, { on := 14, ground := Go.Ground.guard }], guard := some (14, true) }) rfl (by kernel_rfl) (fun _ _ _ h => h) (by assumption) (by rfl) ?_
      | (refine Go.Shr.wpAnyF_take 21 (oi := { dst := some 48, op := Go.Op.binOp Go.BinOp.eql 4 (Go.Operand.tmp 44) (Go.Operand.tmp 47) 4, type := 4, pos := "law.go:174", after := #[{ on := 17, ground := Go.Ground.data }, { on := 20, ground := Go.Ground.data }, { on := 14, ground := Go.Ground.guard }], guard := some (14, true) }) (v := ?g2rv22) rfl (by kernel_rfl) (fun _ _ _ h => h) (by assumption) (by rfl) ?g2ry22 ?g2rr22
         case g2ry22 => intro w hSw; obtain ⟨s1, s2, s3, s4, s5, s6⟩ := hSw; go_simp; (try simp only [beq_self_eq_true, decide_true]); (try with_reducible rfl))
    try simp only [Act.put, List.setIfInBounds_toArray, List.set_cons_zero, List.set_cons_succ]
    refine Go.Shr.wpAnyF_take 22 (oi := { dst := some 49, op := Go.Op.pick (Go.Operand.tmp 41) (Go.Operand.tmp 48) (Go.Operand.const (Go.Value.bool false)), type := 4, pos := "law.go:174", after := #[{ on := 14, ground := Go.Ground.data }, { on := 21, ground := Go.Ground.data }], guard := none }) (v := ?g2rv23) rfl (by kernel_rfl) (fun _ _ _ h => h) (by assumption) (by rfl) ?g2ry23 ?g2rr23
    case g2ry23 => intro w hSw; obtain ⟨s1, s2, s3, s4, s5, s6⟩ := hSw; go_simp; try with_reducible rfl
    try simp only [Act.put, List.setIfInBounds_toArray, List.set_cons_zero, List.set_cons_succ]
    refine Go.Shr.wpAnyF_take 23 (oi := { dst := some 50, op := Go.Op.move (Go.Operand.tmp 49), type := 4, pos := "law.go:174", after := #[{ on := 22, ground := Go.Ground.data }, { on := 20, ground := Go.Ground.chain }], guard := none }) (v := ?g2rv24) rfl (by kernel_rfl) (fun _ _ _ h => h) (by assumption) (by rfl) ?g2ry24 ?g2rr24
    case g2ry24 => intro w hSw; obtain ⟨s1, s2, s3, s4, s5, s6⟩ := hSw; go_simp; try with_reducible rfl
    try simp only [Act.put, List.setIfInBounds_toArray, List.set_cons_zero, List.set_cons_succ]
    first
      | refine Go.Shr.wpAnyF_skip 24 (oi := { dst := some 51, op := Go.Op.load 25 (Go.Operand.tmp 12), type := 25, pos := "law.go:174", after := #[{ on := 23, ground := Go.Ground.guard }], guard := some (23, true) }) rfl (by kernel_rfl) (fun _ _ _ h => h) (by assumption) (by rfl) ?_
      | (refine Go.Shr.wpAnyF_take 24 (oi := { dst := some 51, op := Go.Op.load 25 (Go.Operand.tmp 12), type := 25, pos := "law.go:174", after := #[{ on := 23, ground := Go.Ground.guard }], guard := some (23, true) }) (v := ?g2rv25) rfl (by kernel_rfl) (fun _ _ _ h => h) (by assumption) (by rfl) ?g2ry25 ?g2rr25
         case g2ry25 => intro w hSw; obtain ⟨s1, s2, s3, s4, s5, s6⟩ := hSw; go_simp; try with_reducible rfl)
    try simp only [Act.put, List.setIfInBounds_toArray, List.set_cons_zero, List.set_cons_succ]
    first
      | refine Go.Shr.wpAnyF_skip 26 (oi := { dst := some 53, op := Go.Op.load 25 (Go.Operand.tmp 12), type := 25, pos := "law.go:174", after := #[{ on := 23, ground := Go.Ground.guard }], guard := some (23, true) }) rfl (by kernel_rfl) (fun _ _ _ h => h) (by assumption) (by rfl) ?_
      | (refine Go.Shr.wpAnyF_take 26 (oi := { dst := some 53, op := Go.Op.load 25 (Go.Operand.tmp 12), type := 25, pos := "law.go:174", after := #[{ on := 23, ground := Go.Ground.guard }], guard := some (23, true) }) (v := ?g2rv26) rfl (by kernel_rfl) (fun _ _ _ h => h) (by assumption) (by rfl) ?g2ry26 ?g2rr26
         case g2ry26 => intro w hSw; obtain ⟨s1, s2, s3, s4, s5, s6⟩ := hSw; go_simp; try with_reducible rfl)
    try simp only [Act.put, List.setIfInBounds_toArray, List.set_cons_zero, List.set_cons_succ]
    refine Go.Shr.wpAnyF_ready [25] (by kernel_rfl) (by simp) ?_
    refine Go.Shr.AllReadyF.cons 25 (o := { dst := some 52, op := Go.Op.call { callee := Go.Callee.value (Go.Operand.func 18), args := #[Go.Operand.tmp 51], argTypes := #[25] }, type := 3, pos := "law.go:174", after := #[{ on := 24, ground := Go.Ground.data }, { on := 23, ground := Go.Ground.chain }, { on := 23, ground := Go.Ground.guard }], guard := some (23, true) }) rfl (fun K hK => ?g2ro27) ?g2rm27
    case g2rm27 => exact Go.Shr.AllReadyF.nil
    go_simp; refine (size_all (tt.size + 1) tt (by omega) (by omega) at' tcap _ HTT.out).mono ?_; rintro e w25' ⟨rfl, hb25⟩; (try rw [HST.out]); (try rw [HB1'.out]); (try rw [HB2'.out]); dsimp only; refine gen_w (fun W hW => ?_); (replace r12 := Rw.ren hW (Rw.below r12 hb25)); (replace r13 := Rw.ren hW (Rw.below r13 hb25)); (replace HTT := Lib.hid (TrAt.ren hW (TrAt.below hb25 _ _ HTT.out))); (replace HTU := Lib.hid (TrAt.ren hW (TrAt.below hb25 _ _ HTU.out))); (replace HB := Go.Shr.Below.ren hW (bt HB hb25)); clear hW hb25
    refine hK.out _ _ ?g2rs27 (fun hHeld => ?g2rt27)
    case g2rs27 => (try dsimp only); (exact ⟨r12.cell 0, r12.cell 1, r12.cell 2, r13.cell 0, r13.cell 1, r13.cell 2⟩)
    try dsimp only at hHeld
    clear hK K
    try simp only [Act.put, List.setIfInBounds_toArray, List.set_cons_zero, List.set_cons_succ]
    refine Go.Shr.wpAnyF_ready [27] (by kernel_rfl) (by simp) ?_
    refine Go.Shr.AllReadyF.cons 27 (o := { dst := some 54, op := Go.Op.call { callee := Go.Callee.value (Go.Operand.func 19), args := #[Go.Operand.tmp 53], argTypes := #[25] }, type := 3, pos := "law.go:174", after := #[{ on := 26, ground := Go.Ground.data }, { on := 25, ground := Go.Ground.chain }, { on := 23, ground := Go.Ground.guard }], guard := some (23, true) }) rfl (fun K hK => ?g2ro28) ?g2rm28
    case g2rm28 => exact Go.Shr.AllReadyF.nil
    go_simp; refine (rsize_all (tt.size + 1) tt (by omega) (by omega) at' tcap _ HTT.out).mono ?_; rintro e w27' ⟨rfl, hb27⟩; (try rw [HST.out]); (try rw [HB1'.out]); (try rw [HB2'.out]); dsimp only; refine gen_w (fun W hW => ?_); (replace r12 := Rw.ren hW (Rw.below r12 hb27)); (replace r13 := Rw.ren hW (Rw.below r13 hb27)); (replace HTT := Lib.hid (TrAt.ren hW (TrAt.below hb27 _ _ HTT.out))); (replace HTU := Lib.hid (TrAt.ren hW (TrAt.below hb27 _ _ HTU.out))); (replace HB := Go.Shr.Below.ren hW (bt HB hb27)); clear hW hb27
    refine hK.out _ _ ?g2rs28 (fun hHeld => ?g2rt28)
    case g2rs28 => (try dsimp only); (exact ⟨r12.cell 0, r12.cell 1, r12.cell 2, r13.cell 0, r13.cell 1, r13.cell 2⟩)
    try dsimp only at hHeld
    clear hK K
    try simp only [Act.put, List.setIfInBounds_toArray, List.set_cons_zero, List.set_cons_succ]
    first
      | refine Go.Shr.wpAnyF_skip 28 (oi := { dst := some 55, op := Go.Op.binOp Go.BinOp.eql 3 (Go.Operand.tmp 52) (Go.Operand.tmp 54) 3, type := 4, pos := "law.go:174", after := #[{ on := 25, ground := Go.Ground.data }, { on := 27, ground := Go.Ground.data }, { on := 23, ground := Go.Ground.guard }], guard := some (23, true) }) rfl (by kernel_rfl) (fun _ _ _ h => h) (by assumption) (by rfl) ?_
      | (refine Go.Shr.wpAnyF_take 28 (oi := { dst := some 55, op := Go.Op.binOp Go.BinOp.eql 3 (Go.Operand.tmp 52) (Go.Operand.tmp 54) 3, type := 4, pos := "law.go:174", after := #[{ on := 25, ground := Go.Ground.data }, { on := 27, ground := Go.Ground.data }, { on := 23, ground := Go.Ground.guard }], guard := some (23, true) }) (v := ?g2rv29) rfl (by kernel_rfl) (fun _ _ _ h => h) (by assumption) (by rfl) ?g2ry29 ?g2rr29
         case g2ry29 => intro w hSw; obtain ⟨s1, s2, s3, s4, s5, s6⟩ := hSw; go_simp; (try simp only [beq_self_eq_true, decide_true]); (try with_reducible rfl))
    try simp only [Act.put, List.setIfInBounds_toArray, List.set_cons_zero, List.set_cons_succ]
    refine Go.Shr.wpAnyF_take 29 (oi := { dst := some 56, op := Go.Op.pick (Go.Operand.tmp 50) (Go.Operand.tmp 55) (Go.Operand.const (Go.Value.bool false)), type := 4, pos := "law.go:174", after := #[{ on := 23, ground := Go.Ground.data }, { on := 28, ground := Go.Ground.data }], guard := none }) (v := ?g2rv30) rfl (by kernel_rfl) (fun _ _ _ h => h) (by assumption) (by rfl) ?g2ry30 ?g2rr30
    case g2ry30 => intro w hSw; obtain ⟨s1, s2, s3, s4, s5, s6⟩ := hSw; go_simp; try with_reducible rfl
    try simp only [Act.put, List.setIfInBounds_toArray, List.set_cons_zero, List.set_cons_succ]
    refine Go.Shr.wpAnyF_take 30 (oi := { dst := some 57, op := Go.Op.move (Go.Operand.tmp 56), type := 4, pos := "law.go:174", after := #[{ on := 29, ground := Go.Ground.data }, { on := 27, ground := Go.Ground.chain }], guard := none }) (v := ?g2rv31) rfl (by kernel_rfl) (fun _ _ _ h => h) (by assumption) (by rfl) ?g2ry31 ?g2rr31
    case g2ry31 => intro w hSw; obtain ⟨s1, s2, s3, s4, s5, s6⟩ := hSw; go_simp; try with_reducible rfl
    try simp only [Act.put, List.setIfInBounds_toArray, List.set_cons_zero, List.set_cons_succ]
    first
      | refine Go.Shr.wpAnyF_skip 31 (oi := { dst := some 58, op := Go.Op.load 25 (Go.Operand.tmp 13), type := 25, pos := "law.go:174", after := #[{ on := 30, ground := Go.Ground.guard }], guard := some (30, true) }) rfl (by kernel_rfl) (fun _ _ _ h => h) (by assumption) (by rfl) ?_
      | (refine Go.Shr.wpAnyF_take 31 (oi := { dst := some 58, op := Go.Op.load 25 (Go.Operand.tmp 13), type := 25, pos := "law.go:174", after := #[{ on := 30, ground := Go.Ground.guard }], guard := some (30, true) }) (v := ?g2rv32) rfl (by kernel_rfl) (fun _ _ _ h => h) (by assumption) (by rfl) ?g2ry32 ?g2rr32
         case g2ry32 => intro w hSw; obtain ⟨s1, s2, s3, s4, s5, s6⟩ := hSw; go_simp; try with_reducible rfl)
    try simp only [Act.put, List.setIfInBounds_toArray, List.set_cons_zero, List.set_cons_succ]
    first
      | refine Go.Shr.wpAnyF_skip 33 (oi := { dst := some 60, op := Go.Op.load 25 (Go.Operand.tmp 13), type := 25, pos := "law.go:174", after := #[{ on := 30, ground := Go.Ground.guard }], guard := some (30, true) }) rfl (by kernel_rfl) (fun _ _ _ h => h) (by assumption) (by rfl) ?_
      | (refine Go.Shr.wpAnyF_take 33 (oi := { dst := some 60, op := Go.Op.load 25 (Go.Operand.tmp 13), type := 25, pos := "law.go:174", after := #[{ on := 30, ground := Go.Ground.guard }], guard := some (30, true) }) (v := ?g2rv33) rfl (by kernel_rfl) (fun _ _ _ h => h) (by assumption) (by rfl) ?g2ry33 ?g2rr33
         case g2ry33 => intro w hSw; obtain ⟨s1, s2, s3, s4, s5, s6⟩ := hSw; go_simp; try with_reducible rfl)
    try simp only [Act.put, List.setIfInBounds_toArray, List.set_cons_zero, List.set_cons_succ]
    refine Go.Shr.wpAnyF_ready [32] (by kernel_rfl) (by simp) ?_
    refine Go.Shr.AllReadyF.cons 32 (o := { dst := some 59, op := Go.Op.call { callee := Go.Callee.value (Go.Operand.func 18), args := #[Go.Operand.tmp 58], argTypes := #[25] }, type := 3, pos := "law.go:174", after := #[{ on := 31, ground := Go.Ground.data }, { on := 30, ground := Go.Ground.chain }, { on := 30, ground := Go.Ground.guard }], guard := some (30, true) }) rfl (fun K hK => ?g2ro34) ?g2rm34
    case g2rm34 => exact Go.Shr.AllReadyF.nil
    go_simp; refine (size_all (u.size + 1) u (by omega) (by omega) a9 c9 _ HTU.out).mono ?_; rintro e w32' ⟨rfl, hb32⟩; (try rw [HST.out]); (try rw [HB1'.out]); (try rw [HB2'.out]); dsimp only; refine gen_w (fun W hW => ?_); (replace r12 := Rw.ren hW (Rw.below r12 hb32)); (replace r13 := Rw.ren hW (Rw.below r13 hb32)); (replace HTT := Lib.hid (TrAt.ren hW (TrAt.below hb32 _ _ HTT.out))); (replace HTU := Lib.hid (TrAt.ren hW (TrAt.below hb32 _ _ HTU.out))); (replace HB := Go.Shr.Below.ren hW (bt HB hb32)); clear hW hb32
    refine hK.out _ _ ?g2rs34 (fun hHeld => ?g2rt34)
    case g2rs34 => (try dsimp only); (exact ⟨r12.cell 0, r12.cell 1, r12.cell 2, r13.cell 0, r13.cell 1, r13.cell 2⟩)
    try dsimp only at hHeld
    clear hK K
    try simp only [Act.put, List.setIfInBounds_toArray, List.set_cons_zero, List.set_cons_succ]
    refine Go.Shr.wpAnyF_ready [34] (by kernel_rfl) (by simp) ?_
    refine Go.Shr.AllReadyF.cons 34 (o := { dst := some 61, op := Go.Op.call { callee := Go.Callee.value (Go.Operand.func 19), args := #[Go.Operand.tmp 60], argTypes := #[25] }, type := 3, pos := "law.go:174", after := #[{ on := 33, ground := Go.Ground.data }, { on := 32, ground := Go.Ground.chain }, { on := 30, ground := Go.Ground.guard }], guard := some (30, true) }) rfl (fun K hK => ?g2ro35) ?g2rm35
    case g2rm35 => exact Go.Shr.AllReadyF.nil
    go_simp; refine (rsize_all (u.size + 1) u (by omega) (by omega) a9 c9 _ HTU.out).mono ?_; rintro e w34' ⟨rfl, hb34⟩; (try rw [HST.out]); (try rw [HB1'.out]); (try rw [HB2'.out]); dsimp only; refine gen_w (fun W hW => ?_); (replace r12 := Rw.ren hW (Rw.below r12 hb34)); (replace r13 := Rw.ren hW (Rw.below r13 hb34)); (replace HTT := Lib.hid (TrAt.ren hW (TrAt.below hb34 _ _ HTT.out))); (replace HTU := Lib.hid (TrAt.ren hW (TrAt.below hb34 _ _ HTU.out))); (replace HB := Go.Shr.Below.ren hW (bt HB hb34)); clear hW hb34
    refine hK.out _ _ ?g2rs35 (fun hHeld => ?g2rt35)
    case g2rs35 => (try dsimp only); (exact ⟨r12.cell 0, r12.cell 1, r12.cell 2, r13.cell 0, r13.cell 1, r13.cell 2⟩)
    try dsimp only at hHeld
    clear hK K
    try simp only [Act.put, List.setIfInBounds_toArray, List.set_cons_zero, List.set_cons_succ]
    first
      | refine Go.Shr.wpAnyF_skip 35 (oi := { dst := some 62, op := Go.Op.binOp Go.BinOp.eql 3 (Go.Operand.tmp 59) (Go.Operand.tmp 61) 3, type := 4, pos := "law.go:174", after := #[{ on := 32, ground := Go.Ground.data }, { on := 34, ground := Go.Ground.data }, { on := 30, ground := Go.Ground.guard }], guard := some (30, true) }) rfl (by kernel_rfl) (fun _ _ _ h => h) (by assumption) (by rfl) ?_
      | (refine Go.Shr.wpAnyF_take 35 (oi := { dst := some 62, op := Go.Op.binOp Go.BinOp.eql 3 (Go.Operand.tmp 59) (Go.Operand.tmp 61) 3, type := 4, pos := "law.go:174", after := #[{ on := 32, ground := Go.Ground.data }, { on := 34, ground := Go.Ground.data }, { on := 30, ground := Go.Ground.guard }], guard := some (30, true) }) (v := ?g2rv36) rfl (by kernel_rfl) (fun _ _ _ h => h) (by assumption) (by rfl) ?g2ry36 ?g2rr36
         case g2ry36 => intro w hSw; obtain ⟨s1, s2, s3, s4, s5, s6⟩ := hSw; go_simp; (try simp only [beq_self_eq_true, decide_true]); (try with_reducible rfl))
    try simp only [Act.put, List.setIfInBounds_toArray, List.set_cons_zero, List.set_cons_succ]
    refine Go.Shr.wpAnyF_take 36 (oi := { dst := some 63, op := Go.Op.pick (Go.Operand.tmp 57) (Go.Operand.tmp 62) (Go.Operand.const (Go.Value.bool false)), type := 4, pos := "law.go:174", after := #[{ on := 30, ground := Go.Ground.data }, { on := 35, ground := Go.Ground.data }], guard := none }) (v := ?g2rv37) rfl (by kernel_rfl) (fun _ _ _ h => h) (by assumption) (by rfl) ?g2ry37 ?g2rr37
    case g2ry37 => intro w hSw; obtain ⟨s1, s2, s3, s4, s5, s6⟩ := hSw; go_simp; try with_reducible rfl
    try simp only [Act.put, List.setIfInBounds_toArray, List.set_cons_zero, List.set_cons_succ]
    refine Go.Shr.wpAnyF_ready [37] (by kernel_rfl) (by simp) ?_
    refine Go.Shr.AllReadyF.last 37 (o := { dst := some 10, op := Go.Op.assign (Go.Operand.tmp 63), type := 4, pos := "law.go:174", after := #[{ on := 36, ground := Go.Ground.data }, { on := 34, ground := Go.Ground.chain }, { on := 0, ground := Go.Ground.phase }, { on := 1, ground := Go.Ground.phase }, { on := 2, ground := Go.Ground.phase }, { on := 3, ground := Go.Ground.phase }, { on := 4, ground := Go.Ground.phase }, { on := 5, ground := Go.Ground.phase }, { on := 6, ground := Go.Ground.phase }, { on := 7, ground := Go.Ground.phase }, { on := 8, ground := Go.Ground.phase }, { on := 9, ground := Go.Ground.phase }, { on := 10, ground := Go.Ground.phase }, { on := 11, ground := Go.Ground.phase }, { on := 12, ground := Go.Ground.phase }, { on := 13, ground := Go.Ground.phase }, { on := 14, ground := Go.Ground.phase }, { on := 15, ground := Go.Ground.phase }, { on := 16, ground := Go.Ground.phase }, { on := 17, ground := Go.Ground.phase }, { on := 18, ground := Go.Ground.phase }, { on := 19, ground := Go.Ground.phase }, { on := 20, ground := Go.Ground.phase }, { on := 21, ground := Go.Ground.phase }, { on := 22, ground := Go.Ground.phase }, { on := 23, ground := Go.Ground.phase }, { on := 24, ground := Go.Ground.phase }, { on := 25, ground := Go.Ground.phase }, { on := 26, ground := Go.Ground.phase }, { on := 27, ground := Go.Ground.phase }, { on := 28, ground := Go.Ground.phase }, { on := 29, ground := Go.Ground.phase }, { on := 30, ground := Go.Ground.phase }, { on := 31, ground := Go.Ground.phase }, { on := 32, ground := Go.Ground.phase }, { on := 33, ground := Go.Ground.phase }, { on := 34, ground := Go.Ground.phase }, { on := 35, ground := Go.Ground.phase }, { on := 36, ground := Go.Ground.phase }], guard := none }) rfl (by kernel_rfl) (fun K hK => ?g2ro38) ?g2rm38
    case g2rm38 => exact Go.Shr.AllReadyF.nil
    go_simp
    refine hK.out _ _ ?_
    clear hK K
    try simp only [Act.put, List.setIfInBounds_toArray, List.set_cons_zero, List.set_cons_succ]
    refine Go.Shr.wpAnyF_done (by kernel_rfl) ?_
    go_wp2_with fail
    refine bodyPost_ret (v := .bool true) (by simp [results, Try.results8, go_sem]) rfl ?_
    exact ⟨rfl, bt HBB.out HB⟩
end Go.Proofs.Ytdgcgkmejejccaa
