/-
  The walk of WireApart.
-/
import Derived.Test.YtofhlopedflkiaaTrees9
import Derived.Test.YtofhlopedflkiaaDecP
import Derived.Test.YtofhlopedflkiaaMany9
set_option linter.unusedSimpArgs false
namespace Go.Shr
open Go.RowKit
theorem one_sl {w : World} {b : Nat} {c0 c1 c2 : Value} {ty : TypeId} (h : Rw w b #[c0, c1, c2] ty) : Sl (fun k => k < w.heap.size) w 3 (some ⟨b, 0, none⟩) 1 1 [c0, c1, c2] :=
  ⟨rfl, Nat.le_refl _, by decide, .inr ⟨b, 0, rfl, h.lt, fun j u hj => by rw [Nat.zero_add, h.cell]; simpa using hj⟩⟩
theorem one_rw {w : World} {t : Tr} {a : Option Addr} {cap : Nat} (h : TrAt w t [.int .i64 t.n, .string t.s, .slice a t.kids.length cap]) : RowAt w [t] [.int .i64 t.n, .string t.s, .slice a t.kids.length cap] := by
  simp only [RowAt]
  exact ⟨_, _, _, [], rfl, h, rfl⟩
theorem TrAt.ren {W X : World} {t : Tr} {cs : List Value} (hW : W = X) (h : TrAt X t cs) : TrAt W t cs := hW ▸ h
end Go.Shr
namespace Go.Proofs.Ytofhlopedflkiaa
open Go.RowKit Go.Shr
theorem apart_iff {sh : Sh} {t u : Tr} (ht : okT sh t) (hu : okT sh u) : (encR sh [t] == encR sh [u]) = sameL [t] [u] := by
  have h1 : (sameL [t] [u] = true ↔ t = u) := by rw [sameL_iff]; simp
  by_cases h : t = u
  · subst h; simp [h1]
  · have : ¬ encR sh [t] = encR sh [u] := fun e => h (encT_inj ht hu (by rw [encR_one, encR_one] at e; exact List.cons.inj e |>.2))
    cases hs : sameL [t] [u] with
    | true => exact absurd (h1.1 hs) h
    | false => simp [this]
set_option maxHeartbeats 2000000 in
set_option maxRecDepth 100000 in
theorem law_apart (a0 : Option Addr) (n0 c0 : Nat) (z0 : List Int) (a1 : Option Addr) (n1 c1 : Nat) (z1 : List Int) (a2 : Option Addr) (n2 c2 : Nat) (z2 : List Int) (w : World) (h0 : Sl (fun b => b < w.heap.size) w 1 a0 n0 c0 (ints z0)) (w0 : ∀ z ∈ z0, (Lit.int .i64 z).wf = true) (h1 : Sl (fun b => b < w.heap.size) w 1 a1 n1 c1 (ints z1)) (w1 : ∀ z ∈ z1, (Lit.int .i64 z).wf = true) (h2 : Sl (fun b => b < w.heap.size) w 1 a2 n2 c2 (ints z2)) (w2 : ∀ z ∈ z2, (Lit.int .i64 z).wf = true) :
    Calls Try.prog 4 #[.slice a0 n0 c0, .slice a1 n1 c1, .slice a2 n2 c2] w fun e w' => e = .returned (.bool true) ∧ Below w.heap.size w w' := by
  have H0 := Lib.hid h0; have H1 := Lib.hid h1; have H2 := Lib.hid h2; have W0 := Lib.hid w0; have W1 := Lib.hid w1; have W2 := Lib.hid w2
  clear h0 h1 h2 w0 w1 w2
  go_enter Try.func4, Try.ntmps4
  go_wp2_with fail
  refine (known9 _).mono ?_
  rintro e w1 ⟨rfl, hb1⟩
  have HB1 := Lib.hid hb1; clear hb1
  go_wp2_with fail
  refine (make5 a0 n0 c0 z0 w1 (slb H0.out HB1.out) W0.out).mono ?_
  rintro e w2 ⟨a, cap, rfl, ho, hb2⟩
  have HSC := Lib.hid (Sl.mono (ok' := fun b => b < w2.heap.size) ho.sl (fun k hk _ => hk) (by decide))
  have HB2 := Lib.hid (bt HB1.out hb2)
  clear ho hb2
  go_wp2_with fail
  refine (make8 a cap (makeL z0) (makeSh z0) a1 n1 c1 z1 w2 (make_sch z0) HSC.out (slb H1.out HB2.out) W1.out).mono ?_
  rintro e w3 ⟨ax, mx, cx, rfl, htx, hb3⟩
  have HB3 := Lib.hid (bt HB2.out hb3); have HSC3 := Lib.hid (slb HSC.out hb3)
  have htxa := htx.at
  obtain ⟨_, _, _, _, hcs, hm, _, _, _⟩ := htxa.parts
  simp at hcs
  obtain ⟨rfl, rfl, rfl⟩ := hcs
  subst hm
  have HTX := Lib.hid htxa
  clear htx hb3 htxa HB2 HSC
  go_wp2_with fail
  refine (make8 a cap (makeL z0) (makeSh z0) a2 n2 c2 z2 w3 (make_sch z0) HSC3.out (slb H2.out HB3.out) W2.out).mono ?_
  rintro e w4 ⟨ay, my, cy, rfl, hty, hb4⟩
  have HB4 := Lib.hid (bt HB3.out hb4); have HSC4 := Lib.hid (slb HSC3.out hb4)
  have htya := hty.at
  obtain ⟨_, _, _, _, hcs, hm, _, _, _⟩ := htya.parts
  simp at hcs
  obtain ⟨rfl, rfl, rfl⟩ := hcs
  subst hm
  have HTY := Lib.hid htya; have HTX4 := Lib.hid (TrAt.below hb4 _ _ HTX.out)
  clear hty hb4 htya HB3 HSC3 HTX
  have HLX : Hid ((encR (makeSh z0) [makeT (makeSh z0) z1]).length ≤ 10000000000000) := Lib.hid (by rw [encR_one, List.length_cons]; have := encT_make (ns := z0) W1.out; omega)
  have HLY : Hid ((encR (makeSh z0) [makeT (makeSh z0) z2]).length ≤ 10000000000000) := Lib.hid (by rw [encR_one, List.length_cons]; have := encT_make (ns := z0) W2.out; omega)
  have HEQ := Lib.hid (apart_iff (ok_make W1.out (makeSh z0)) (ok_make W2.out (makeSh z0)))
  have HSCH := Lib.hid (make_sch z0)
  generalize makeT (makeSh z0) z1 = tx at *
  generalize makeT (makeSh z0) z2 = ty at *
  generalize makeL z0 = L at *
  generalize makeSh z0 = sh at *
  go_upto_region 5 with fail
  obtain ⟨wB, hwB⟩ : ∃ wB, wB = (w4.alloc (.cells #[.int .i64 tx.n, .string tx.s, .slice ax tx.kids.length cx] 35)).alloc (.cells #[.int .i64 ty.n, .string ty.s, .slice ay ty.kids.length cy] 35) := ⟨_, rfl⟩
  have hb5 : Below w4.heap.size w4 wB := by rw [hwB]; exact ba (ba (b0 w4) _) _
  have r8 : Rw wB w4.heap.size #[.int .i64 tx.n, .string tx.s, .slice ax tx.kids.length cx] 35 := by rw [hwB]; exact (Rw.new w4 _ _).alloc _
  have r9 : Rw wB (w4.heap.size + 1) #[.int .i64 ty.n, .string ty.s, .slice ay ty.kids.length cy] 35 := by rw [hwB]; exact Rw.new' (by simp)
  rw [← hwB]
  clear hwB
  have HBB := Lib.hid (bt HB4.out hb5); have HSCB := Lib.hid (slb HSC4.out hb5)
  have HTXB := Lib.hid (TrAt.below hb5 _ _ HTX4.out); have HTYB := Lib.hid (TrAt.below hb5 _ _ HTY.out)
  clear hb5 HB4 HSC4 HTX4 HTY H0 H1 H2 W0 W1 W2 HB1
  generalize w4.heap.size = T at *
  have HB := b0 wB
  have tok := True.intro
  go_cut [10, 11] from 22 to 29 (fun p q wc => ∃ (ap : Option Addr) (cp : Nat) (aq : Option Addr) (cq : Nat), p = .slice ap (encR sh [tx]).length cp ∧ q = .slice aq (encR sh [ty]).length cq ∧ Hid (Sl (fun b => b < wc.heap.size) wc 1 ap (encR sh [tx]).length cp (u8s (encR sh [tx]))) ∧ Hid (Sl (fun b => b < wc.heap.size) wc 1 aq (encR sh [ty]).length cq (u8s (encR sh [ty]))) ∧ Hid (Below wB.heap.size wB wc))
  case first =>
    refine Go.Shr.wp_region_F (fun w' => w'.cell? ⟨T, 0, none⟩ = some (.int .i64 tx.n) ∧ w'.cell? ⟨T, 1, none⟩ = some (.string tx.s) ∧ w'.cell? ⟨T, 2, none⟩ = some (.slice ax tx.kids.length cx) ∧ w'.cell? ⟨T + 1, 0, none⟩ = some (.int .i64 ty.n) ∧ w'.cell? ⟨T + 1, 1, none⟩ = some (.string ty.s) ∧ w'.cell? ⟨T + 1, 2, none⟩ = some (.slice ay ty.kids.length cy)) [8, 9] (by kernel_rfl) ?g1rgS (fun hHeld => ?g1rgR)
    case g1rgS => (try dsimp only); (exact ⟨r8.cell 0, r8.cell 1, r8.cell 2, r9.cell 0, r9.cell 1, r9.cell 2⟩)
    try dsimp only at hHeld
    obtain ⟨W, hW⟩ : ∃ W, W = wB.drew := ⟨_, rfl⟩; rw [← hW] at hHeld ⊢; (replace r8 := Rw.ren hW r8.drew); (replace r9 := Rw.ren hW r9.drew); (replace HB := Go.Shr.Below.ren hW HB.drew); clear hW
    refine Go.Shr.wpAnyF_take 0 (oi := { dst := some 22, op := Go.Op.move (Go.Operand.tmp 7), type := 26, pos := "more.go:68", after := #[], guard := none }) (v := ?g1rv1) rfl (by kernel_rfl) (fun _ _ _ h => h) (by assumption) (by rfl) ?g1ry1 ?g1rr1
    case g1ry1 => intro w hSw; obtain ⟨s1, s2, s3, s4, s5, s6⟩ := hSw; go_simp; try with_reducible rfl
    try simp only [Act.put, List.setIfInBounds_toArray, List.set_cons_zero, List.set_cons_succ]
    refine Go.Shr.wpAnyF_take 1 (oi := { dst := some 23, op := Go.Op.load 35 (Go.Operand.tmp 8), type := 35, pos := "more.go:68", after := #[], guard := none }) (v := ?g1rv2) rfl (by kernel_rfl) (fun _ _ _ h => h) (by assumption) (by rfl) ?g1ry2 ?g1rr2
    case g1ry2 => intro w hSw; obtain ⟨s1, s2, s3, s4, s5, s6⟩ := hSw; go_simp; try with_reducible rfl
    try simp only [Act.put, List.setIfInBounds_toArray, List.set_cons_zero, List.set_cons_succ]
    refine Go.Shr.wpAnyF_take 4 (oi := { dst := some 26, op := Go.Op.move (Go.Operand.tmp 7), type := 26, pos := "more.go:68", after := #[], guard := none }) (v := ?g1rv3) rfl (by kernel_rfl) (fun _ _ _ h => h) (by assumption) (by rfl) ?g1ry3 ?g1rr3
    case g1ry3 => intro w hSw; obtain ⟨s1, s2, s3, s4, s5, s6⟩ := hSw; go_simp; try with_reducible rfl
    try simp only [Act.put, List.setIfInBounds_toArray, List.set_cons_zero, List.set_cons_succ]
    refine Go.Shr.wpAnyF_take 5 (oi := { dst := some 27, op := Go.Op.load 35 (Go.Operand.tmp 9), type := 35, pos := "more.go:68", after := #[], guard := none }) (v := ?g1rv4) rfl (by kernel_rfl) (fun _ _ _ h => h) (by assumption) (by rfl) ?g1ry4 ?g1rr4
    case g1ry4 => intro w hSw; obtain ⟨s1, s2, s3, s4, s5, s6⟩ := hSw; go_simp; try with_reducible rfl
    try simp only [Act.put, List.setIfInBounds_toArray, List.set_cons_zero, List.set_cons_succ]
    refine Go.Shr.wpAnyF_ready [2, 6] (by kernel_rfl) (by simp) ?_
    refine Go.Shr.AllReadyF.cons 2 (o := { dst := some 24, op := Go.Op.buildSlice 28 1 #[(0, Go.Operand.tmp 23)], type := 28, pos := "more.go:68", after := #[{ on := 1, ground := Go.Ground.data }], guard := none }) rfl (fun K hK => ?g1ro5) ?g1rm5
    case g1ro5 =>
      (obtain ⟨b2, hb2⟩ : ∃ b2, b2 = W.heap.size := ⟨_, rfl⟩); go_simp; rw [← hb2]; refine gen_w (fun W hW => ?_); (have r2 := Rw.ren hW (Rw.fresh HB #[.int .i64 tx.n, .string tx.s, .slice ax tx.kids.length cx] 35)); rw [← hb2] at r2; (replace r8 := Rw.ren hW (Rw.alloc r8 _)); (replace r9 := Rw.ren hW (Rw.alloc r9 _)); (try replace r6 := Rw.ren hW (Rw.alloc r6 _)); (replace HB := Go.Shr.Below.ren hW (ba HB _)); clear hW hb2
      refine hK.out _ _ ?g1rs5 (fun hHeld => ?g1rt5)
      case g1rs5 => (try dsimp only); (exact ⟨r8.cell 0, r8.cell 1, r8.cell 2, r9.cell 0, r9.cell 1, r9.cell 2⟩)
      try dsimp only at hHeld
      clear hK K
      try simp only [Act.put, List.setIfInBounds_toArray, List.set_cons_zero, List.set_cons_succ]
      refine Go.Shr.wpAnyF_ready [3, 6] (by kernel_rfl) (by simp) ?_
      refine Go.Shr.AllReadyF.cons 3 (o := { dst := some 25, op := Go.Op.call { callee := Go.Callee.value (Go.Operand.func 14), args := #[Go.Operand.tmp 22, Go.Operand.tmp 24], argTypes := #[26, 28] }, type := 30, pos := "more.go:68", after := #[{ on := 0, ground := Go.Ground.data }, { on := 2, ground := Go.Ground.data }], guard := none }) rfl (fun K hK => ?g1ro6) ?g1rm6
      case g1ro6 =>
        go_simp; refine (bytes_v L sh HSCH.out a cap [tx] (some ⟨b2, 0, none⟩) 1 _ W (slb HSCB.out HB) (one_sl r2) (one_rw (TrAt.below HB _ _ HTXB.out)) HLX.out).mono ?_; rintro e W3 ⟨a3, c3, rfl, ho3, hb3⟩; dsimp only; refine gen_w (fun W hW => ?_); (have hs3 := Go.Shr.Sl.ren hW (ho3.sl.mono (ok' := fun b => b < W3.heap.size) (fun k hk _ => hk) (by decide))); (replace r8 := Rw.ren hW (Rw.below r8 hb3)); (replace r9 := Rw.ren hW (Rw.below r9 hb3)); (try replace r6 := Rw.ren hW (Rw.below r6 hb3)); (replace HB := Go.Shr.Below.ren hW (bt HB hb3)); clear hW hb3 ho3
        refine hK.out _ _ ?g1rs6 (fun hHeld => ?g1rt6)
        case g1rs6 => (try dsimp only); (exact ⟨r8.cell 0, r8.cell 1, r8.cell 2, r9.cell 0, r9.cell 1, r9.cell 2⟩)
        try dsimp only at hHeld
        clear hK K
        try simp only [Act.put, List.setIfInBounds_toArray, List.set_cons_zero, List.set_cons_succ]
        refine Go.Shr.wpAnyF_ready [6] (by kernel_rfl) (by simp) ?_
        refine Go.Shr.AllReadyF.cons 6 (o := { dst := some 28, op := Go.Op.buildSlice 28 1 #[(0, Go.Operand.tmp 27)], type := 28, pos := "more.go:68", after := #[{ on := 5, ground := Go.Ground.data }], guard := none }) rfl (fun K hK => ?g1ro7) ?g1rm7
        case g1rm7 => exact Go.Shr.AllReadyF.nil
        (obtain ⟨b6, hb6⟩ : ∃ b6, b6 = W.heap.size := ⟨_, rfl⟩); go_simp; rw [← hb6]; refine gen_w (fun W hW => ?_); (have r6 := Rw.ren hW (Rw.fresh HB #[.int .i64 ty.n, .string ty.s, .slice ay ty.kids.length cy] 35)); rw [← hb6] at r6; (replace r8 := Rw.ren hW (Rw.alloc r8 _)); (replace r9 := Rw.ren hW (Rw.alloc r9 _)); (try replace r2 := Rw.ren hW (Rw.alloc r2 _)); (try replace hs3 := Go.Shr.Sl.ren hW (slb hs3 (ba (b0 _) _))); (replace HB := Go.Shr.Below.ren hW (ba HB _)); clear hW hb6
        refine hK.out _ _ ?g1rs7 (fun hHeld => ?g1rt7)
        case g1rs7 => (try dsimp only); (exact ⟨r8.cell 0, r8.cell 1, r8.cell 2, r9.cell 0, r9.cell 1, r9.cell 2⟩)
        try dsimp only at hHeld
        clear hK K
        try simp only [Act.put, List.setIfInBounds_toArray, List.set_cons_zero, List.set_cons_succ]
        refine Go.Shr.wpAnyF_ready [7] (by kernel_rfl) (by simp) ?_
        refine Go.Shr.AllReadyF.cons 7 (o := { dst := some 29, op := Go.Op.call { callee := Go.Callee.value (Go.Operand.func 14), args := #[Go.Operand.tmp 26, Go.Operand.tmp 28], argTypes := #[26, 28] }, type := 30, pos := "more.go:68", after := #[{ on := 4, ground := Go.Ground.data }, { on := 6, ground := Go.Ground.data }, { on := 3, ground := Go.Ground.chain }], guard := none }) rfl (fun K hK => ?g1ro8) ?g1rm8
        case g1rm8 => exact Go.Shr.AllReadyF.nil
        go_simp; refine (bytes_v L sh HSCH.out a cap [ty] (some ⟨b6, 0, none⟩) 1 _ W (slb HSCB.out HB) (one_sl r6) (one_rw (TrAt.below HB _ _ HTYB.out)) HLY.out).mono ?_; rintro e W7 ⟨a7, c7, rfl, ho7, hb7⟩; dsimp only; refine gen_w (fun W hW => ?_); (have hs7 := Go.Shr.Sl.ren hW (ho7.sl.mono (ok' := fun b => b < W7.heap.size) (fun k hk _ => hk) (by decide))); (replace hs3 := Go.Shr.Sl.ren hW (slb hs3 hb7)); (replace r8 := Rw.ren hW (Rw.below r8 hb7)); (replace r9 := Rw.ren hW (Rw.below r9 hb7)); (replace HB := Go.Shr.Below.ren hW (bt HB hb7)); clear hW hb7 ho7
        refine hK.out _ _ ?g1rs8 (fun hHeld => ?g1rt8)
        case g1rs8 => (try dsimp only); (exact ⟨r8.cell 0, r8.cell 1, r8.cell 2, r9.cell 0, r9.cell 1, r9.cell 2⟩)
        try dsimp only at hHeld
        clear hK K
        try simp only [Act.put, List.setIfInBounds_toArray, List.set_cons_zero, List.set_cons_succ]
        refine Go.Shr.wpAnyF_ready [8] (by kernel_rfl) (by simp) ?_
        refine Go.Shr.AllReadyF.last 8 (o := { dst := some 10, op := Go.Op.assign (Go.Operand.tmp 25), type := 30, pos := "more.go:68", after := #[{ on := 3, ground := Go.Ground.data }, { on := 7, ground := Go.Ground.chain }, { on := 0, ground := Go.Ground.phase }, { on := 1, ground := Go.Ground.phase }, { on := 2, ground := Go.Ground.phase }, { on := 3, ground := Go.Ground.phase }, { on := 4, ground := Go.Ground.textOnly Go.Departure.lateStores }, { on := 5, ground := Go.Ground.textOnly Go.Departure.lateStores }, { on := 6, ground := Go.Ground.textOnly Go.Departure.lateStores }, { on := 7, ground := Go.Ground.textOnly Go.Departure.lateStoresUnsure }], guard := none }) rfl (by kernel_rfl) (fun K hK => ?g1ro9) ?g1rm9
        case g1rm9 => exact Go.Shr.AllReadyF.nil
        go_simp
        refine hK.out _ _ ?_
        clear hK K
        try simp only [Act.put, List.setIfInBounds_toArray, List.set_cons_zero, List.set_cons_succ]
        refine Go.Shr.wpAnyF_ready [9] (by kernel_rfl) (by simp) ?_
        refine Go.Shr.AllReadyF.last 9 (o := { dst := some 11, op := Go.Op.assign (Go.Operand.tmp 29), type := 30, pos := "more.go:68", after := #[{ on := 7, ground := Go.Ground.data }, { on := 8, ground := Go.Ground.chain }, { on := 0, ground := Go.Ground.phase }, { on := 1, ground := Go.Ground.phase }, { on := 2, ground := Go.Ground.phase }, { on := 3, ground := Go.Ground.phase }, { on := 4, ground := Go.Ground.phase }, { on := 5, ground := Go.Ground.phase }, { on := 6, ground := Go.Ground.phase }, { on := 7, ground := Go.Ground.phase }, { on := 8, ground := Go.Ground.phase }], guard := none }) rfl (by kernel_rfl) (fun K hK => ?g1ro10) ?g1rm10
        case g1rm10 => exact Go.Shr.AllReadyF.nil
        go_simp
        refine hK.out _ _ ?_
        clear hK K
        try simp only [Act.put, List.setIfInBounds_toArray, List.set_cons_zero, List.set_cons_succ]
        refine Go.Shr.wpAnyF_done (by kernel_rfl) ?_
        go_wp2_with fail
        go_meet
        case rel => exact ⟨a3, c3, a7, c7, rfl, rfl, Lib.hid hs3, Lib.hid hs7, Lib.hid HB⟩
      case g1rm6 =>
      refine Go.Shr.AllReadyF.cons 6 (o := { dst := some 28, op := Go.Op.buildSlice 28 1 #[(0, Go.Operand.tmp 27)], type := 28, pos := "more.go:68", after := #[{ on := 5, ground := Go.Ground.data }], guard := none }) rfl (fun K hK => ?g1ro11) ?g1rm11
      case g1ro11 =>
        (obtain ⟨b6, hb6⟩ : ∃ b6, b6 = W.heap.size := ⟨_, rfl⟩); go_simp; rw [← hb6]; refine gen_w (fun W hW => ?_); (have r6 := Rw.ren hW (Rw.fresh HB #[.int .i64 ty.n, .string ty.s, .slice ay ty.kids.length cy] 35)); rw [← hb6] at r6; (replace r8 := Rw.ren hW (Rw.alloc r8 _)); (replace r9 := Rw.ren hW (Rw.alloc r9 _)); (try replace r2 := Rw.ren hW (Rw.alloc r2 _)); (try replace hs3 := Go.Shr.Sl.ren hW (slb hs3 (ba (b0 _) _))); (replace HB := Go.Shr.Below.ren hW (ba HB _)); clear hW hb6
        refine hK.out _ _ ?g1rs11 (fun hHeld => ?g1rt11)
        case g1rs11 => (try dsimp only); (exact ⟨r8.cell 0, r8.cell 1, r8.cell 2, r9.cell 0, r9.cell 1, r9.cell 2⟩)
        try dsimp only at hHeld
        clear hK K
        try simp only [Act.put, List.setIfInBounds_toArray, List.set_cons_zero, List.set_cons_succ]
        refine Go.Shr.wpAnyF_ready [3] (by kernel_rfl) (by simp) ?_
        refine Go.Shr.AllReadyF.cons 3 (o := { dst := some 25, op := Go.Op.call { callee := Go.Callee.value (Go.Operand.func 14), args := #[Go.Operand.tmp 22, Go.Operand.tmp 24], argTypes := #[26, 28] }, type := 30, pos := "more.go:68", after := #[{ on := 0, ground := Go.Ground.data }, { on := 2, ground := Go.Ground.data }], guard := none }) rfl (fun K hK => ?g1ro12) ?g1rm12
        case g1rm12 => exact Go.Shr.AllReadyF.nil
        go_simp; refine (bytes_v L sh HSCH.out a cap [tx] (some ⟨b2, 0, none⟩) 1 _ W (slb HSCB.out HB) (one_sl r2) (one_rw (TrAt.below HB _ _ HTXB.out)) HLX.out).mono ?_; rintro e W3 ⟨a3, c3, rfl, ho3, hb3⟩; dsimp only; refine gen_w (fun W hW => ?_); (have hs3 := Go.Shr.Sl.ren hW (ho3.sl.mono (ok' := fun b => b < W3.heap.size) (fun k hk _ => hk) (by decide))); (replace r8 := Rw.ren hW (Rw.below r8 hb3)); (replace r9 := Rw.ren hW (Rw.below r9 hb3)); (try replace r6 := Rw.ren hW (Rw.below r6 hb3)); (replace HB := Go.Shr.Below.ren hW (bt HB hb3)); clear hW hb3 ho3
        refine hK.out _ _ ?g1rs12 (fun hHeld => ?g1rt12)
        case g1rs12 => (try dsimp only); (exact ⟨r8.cell 0, r8.cell 1, r8.cell 2, r9.cell 0, r9.cell 1, r9.cell 2⟩)
        try dsimp only at hHeld
        clear hK K
        try simp only [Act.put, List.setIfInBounds_toArray, List.set_cons_zero, List.set_cons_succ]
        refine Go.Shr.wpAnyF_ready [7] (by kernel_rfl) (by simp) ?_
        refine Go.Shr.AllReadyF.cons 7 (o := { dst := some 29, op := Go.Op.call { callee := Go.Callee.value (Go.Operand.func 14), args := #[Go.Operand.tmp 26, Go.Operand.tmp 28], argTypes := #[26, 28] }, type := 30, pos := "more.go:68", after := #[{ on := 4, ground := Go.Ground.data }, { on := 6, ground := Go.Ground.data }, { on := 3, ground := Go.Ground.chain }], guard := none }) rfl (fun K hK => ?g1ro13) ?g1rm13
        case g1rm13 => exact Go.Shr.AllReadyF.nil
        go_simp; refine (bytes_v L sh HSCH.out a cap [ty] (some ⟨b6, 0, none⟩) 1 _ W (slb HSCB.out HB) (one_sl r6) (one_rw (TrAt.below HB _ _ HTYB.out)) HLY.out).mono ?_; rintro e W7 ⟨a7, c7, rfl, ho7, hb7⟩; dsimp only; refine gen_w (fun W hW => ?_); (have hs7 := Go.Shr.Sl.ren hW (ho7.sl.mono (ok' := fun b => b < W7.heap.size) (fun k hk _ => hk) (by decide))); (replace hs3 := Go.Shr.Sl.ren hW (slb hs3 hb7)); (replace r8 := Rw.ren hW (Rw.below r8 hb7)); (replace r9 := Rw.ren hW (Rw.below r9 hb7)); (replace HB := Go.Shr.Below.ren hW (bt HB hb7)); clear hW hb7 ho7
        refine hK.out _ _ ?g1rs13 (fun hHeld => ?g1rt13)
        case g1rs13 => (try dsimp only); (exact ⟨r8.cell 0, r8.cell 1, r8.cell 2, r9.cell 0, r9.cell 1, r9.cell 2⟩)
        try dsimp only at hHeld
        clear hK K
        try simp only [Act.put, List.setIfInBounds_toArray, List.set_cons_zero, List.set_cons_succ]
        refine Go.Shr.wpAnyF_ready [8] (by kernel_rfl) (by simp) ?_
        refine Go.Shr.AllReadyF.last 8 (o := { dst := some 10, op := Go.Op.assign (Go.Operand.tmp 25), type := 30, pos := "more.go:68", after := #[{ on := 3, ground := Go.Ground.data }, { on := 7, ground := Go.Ground.chain }, { on := 0, ground := Go.Ground.phase }, { on := 1, ground := Go.Ground.phase }, { on := 2, ground := Go.Ground.phase }, { on := 3, ground := Go.Ground.phase }, { on := 4, ground := Go.Ground.textOnly Go.Departure.lateStores }, { on := 5, ground := Go.Ground.textOnly Go.Departure.lateStores }, { on := 6, ground := Go.Ground.textOnly Go.Departure.lateStores }, { on := 7, ground := Go.Ground.textOnly Go.Departure.lateStoresUnsure }], guard := none }) rfl (by kernel_rfl) (fun K hK => ?g1ro14) ?g1rm14
        case g1rm14 => exact Go.Shr.AllReadyF.nil
        go_simp
        refine hK.out _ _ ?_
        clear hK K
        try simp only [Act.put, List.setIfInBounds_toArray, List.set_cons_zero, List.set_cons_succ]
        refine Go.Shr.wpAnyF_ready [9] (by kernel_rfl) (by simp) ?_
        refine Go.Shr.AllReadyF.last 9 (o := { dst := some 11, op := Go.Op.assign (Go.Operand.tmp 29), type := 30, pos := "more.go:68", after := #[{ on := 7, ground := Go.Ground.data }, { on := 8, ground := Go.Ground.chain }, { on := 0, ground := Go.Ground.phase }, { on := 1, ground := Go.Ground.phase }, { on := 2, ground := Go.Ground.phase }, { on := 3, ground := Go.Ground.phase }, { on := 4, ground := Go.Ground.phase }, { on := 5, ground := Go.Ground.phase }, { on := 6, ground := Go.Ground.phase }, { on := 7, ground := Go.Ground.phase }, { on := 8, ground := Go.Ground.phase }], guard := none }) rfl (by kernel_rfl) (fun K hK => ?g1ro15) ?g1rm15
        case g1rm15 => exact Go.Shr.AllReadyF.nil
        go_simp
        refine hK.out _ _ ?_
        clear hK K
        try simp only [Act.put, List.setIfInBounds_toArray, List.set_cons_zero, List.set_cons_succ]
        refine Go.Shr.wpAnyF_done (by kernel_rfl) ?_
        go_wp2_with fail
        go_meet
        case rel => exact ⟨a3, c3, a7, c7, rfl, rfl, Lib.hid hs3, Lib.hid hs7, Lib.hid HB⟩
      case g1rm11 =>
      exact Go.Shr.AllReadyF.nil
    case g1rm5 =>
    refine Go.Shr.AllReadyF.cons 6 (o := { dst := some 28, op := Go.Op.buildSlice 28 1 #[(0, Go.Operand.tmp 27)], type := 28, pos := "more.go:68", after := #[{ on := 5, ground := Go.Ground.data }], guard := none }) rfl (fun K hK => ?g1ro16) ?g1rm16
    case g1ro16 =>
      (obtain ⟨b6, hb6⟩ : ∃ b6, b6 = W.heap.size := ⟨_, rfl⟩); go_simp; rw [← hb6]; refine gen_w (fun W hW => ?_); (have r6 := Rw.ren hW (Rw.fresh HB #[.int .i64 ty.n, .string ty.s, .slice ay ty.kids.length cy] 35)); rw [← hb6] at r6; (replace r8 := Rw.ren hW (Rw.alloc r8 _)); (replace r9 := Rw.ren hW (Rw.alloc r9 _)); (try replace r2 := Rw.ren hW (Rw.alloc r2 _)); (try replace hs3 := Go.Shr.Sl.ren hW (slb hs3 (ba (b0 _) _))); (replace HB := Go.Shr.Below.ren hW (ba HB _)); clear hW hb6
      refine hK.out _ _ ?g1rs16 (fun hHeld => ?g1rt16)
      case g1rs16 => (try dsimp only); (exact ⟨r8.cell 0, r8.cell 1, r8.cell 2, r9.cell 0, r9.cell 1, r9.cell 2⟩)
      try dsimp only at hHeld
      clear hK K
      try simp only [Act.put, List.setIfInBounds_toArray, List.set_cons_zero, List.set_cons_succ]
      refine Go.Shr.wpAnyF_ready [2] (by kernel_rfl) (by simp) ?_
      refine Go.Shr.AllReadyF.cons 2 (o := { dst := some 24, op := Go.Op.buildSlice 28 1 #[(0, Go.Operand.tmp 23)], type := 28, pos := "more.go:68", after := #[{ on := 1, ground := Go.Ground.data }], guard := none }) rfl (fun K hK => ?g1ro17) ?g1rm17
      case g1rm17 => exact Go.Shr.AllReadyF.nil
      (obtain ⟨b2, hb2⟩ : ∃ b2, b2 = W.heap.size := ⟨_, rfl⟩); go_simp; rw [← hb2]; refine gen_w (fun W hW => ?_); (have r2 := Rw.ren hW (Rw.fresh HB #[.int .i64 tx.n, .string tx.s, .slice ax tx.kids.length cx] 35)); rw [← hb2] at r2; (replace r8 := Rw.ren hW (Rw.alloc r8 _)); (replace r9 := Rw.ren hW (Rw.alloc r9 _)); (try replace r6 := Rw.ren hW (Rw.alloc r6 _)); (replace HB := Go.Shr.Below.ren hW (ba HB _)); clear hW hb2
      refine hK.out _ _ ?g1rs17 (fun hHeld => ?g1rt17)
      case g1rs17 => (try dsimp only); (exact ⟨r8.cell 0, r8.cell 1, r8.cell 2, r9.cell 0, r9.cell 1, r9.cell 2⟩)
      try dsimp only at hHeld
      clear hK K
      try simp only [Act.put, List.setIfInBounds_toArray, List.set_cons_zero, List.set_cons_succ]
      refine Go.Shr.wpAnyF_ready [3] (by kernel_rfl) (by simp) ?_
      refine Go.Shr.AllReadyF.cons 3 (o := { dst := some 25, op := Go.Op.call { callee := Go.Callee.value (Go.Operand.func 14), args := #[Go.Operand.tmp 22, Go.Operand.tmp 24], argTypes := #[26, 28] }, type := 30, pos := "more.go:68", after := #[{ on := 0, ground := Go.Ground.data }, { on := 2, ground := Go.Ground.data }], guard := none }) rfl (fun K hK => ?g1ro18) ?g1rm18
      case g1rm18 => exact Go.Shr.AllReadyF.nil
      go_simp; refine (bytes_v L sh HSCH.out a cap [tx] (some ⟨b2, 0, none⟩) 1 _ W (slb HSCB.out HB) (one_sl r2) (one_rw (TrAt.below HB _ _ HTXB.out)) HLX.out).mono ?_; rintro e W3 ⟨a3, c3, rfl, ho3, hb3⟩; dsimp only; refine gen_w (fun W hW => ?_); (have hs3 := Go.Shr.Sl.ren hW (ho3.sl.mono (ok' := fun b => b < W3.heap.size) (fun k hk _ => hk) (by decide))); (replace r8 := Rw.ren hW (Rw.below r8 hb3)); (replace r9 := Rw.ren hW (Rw.below r9 hb3)); (try replace r6 := Rw.ren hW (Rw.below r6 hb3)); (replace HB := Go.Shr.Below.ren hW (bt HB hb3)); clear hW hb3 ho3
      refine hK.out _ _ ?g1rs18 (fun hHeld => ?g1rt18)
      case g1rs18 => (try dsimp only); (exact ⟨r8.cell 0, r8.cell 1, r8.cell 2, r9.cell 0, r9.cell 1, r9.cell 2⟩)
      try dsimp only at hHeld
      clear hK K
      try simp only [Act.put, List.setIfInBounds_toArray, List.set_cons_zero, List.set_cons_succ]
      refine Go.Shr.wpAnyF_ready [7] (by kernel_rfl) (by simp) ?_
      refine Go.Shr.AllReadyF.cons 7 (o := { dst := some 29, op := Go.Op.call { callee := Go.Callee.value (Go.Operand.func 14), args := #[Go.Operand.tmp 26, Go.Operand.tmp 28], argTypes := #[26, 28] }, type := 30, pos := "more.go:68", after := #[{ on := 4, ground := Go.Ground.data }, { on := 6, ground := Go.Ground.data }, { on := 3, ground := Go.Ground.chain }], guard := none }) rfl (fun K hK => ?g1ro19) ?g1rm19
      case g1rm19 => exact Go.Shr.AllReadyF.nil
      go_simp; refine (bytes_v L sh HSCH.out a cap [ty] (some ⟨b6, 0, none⟩) 1 _ W (slb HSCB.out HB) (one_sl r6) (one_rw (TrAt.below HB _ _ HTYB.out)) HLY.out).mono ?_; rintro e W7 ⟨a7, c7, rfl, ho7, hb7⟩; dsimp only; refine gen_w (fun W hW => ?_); (have hs7 := Go.Shr.Sl.ren hW (ho7.sl.mono (ok' := fun b => b < W7.heap.size) (fun k hk _ => hk) (by decide))); (replace hs3 := Go.Shr.Sl.ren hW (slb hs3 hb7)); (replace r8 := Rw.ren hW (Rw.below r8 hb7)); (replace r9 := Rw.ren hW (Rw.below r9 hb7)); (replace HB := Go.Shr.Below.ren hW (bt HB hb7)); clear hW hb7 ho7
      refine hK.out _ _ ?g1rs19 (fun hHeld => ?g1rt19)
      case g1rs19 => (try dsimp only); (exact ⟨r8.cell 0, r8.cell 1, r8.cell 2, r9.cell 0, r9.cell 1, r9.cell 2⟩)
      try dsimp only at hHeld
      clear hK K
      try simp only [Act.put, List.setIfInBounds_toArray, List.set_cons_zero, List.set_cons_succ]
      refine Go.Shr.wpAnyF_ready [8] (by kernel_rfl) (by simp) ?_
      refine Go.Shr.AllReadyF.last 8 (o := { dst := some 10, op := Go.Op.assign (Go.Operand.tmp 25), type := 30, pos := "more.go:68", after := #[{ on := 3, ground := Go.Ground.data }, { on := 7, ground := Go.Ground.chain }, { on := 0, ground := Go.Ground.phase }, { on := 1, ground := Go.Ground.phase }, { on := 2, ground := Go.Ground.phase }, { on := 3, ground := Go.Ground.phase }, { on := 4, ground := Go.Ground.textOnly Go.Departure.lateStores }, { on := 5, ground := Go.Ground.textOnly Go.Departure.lateStores }, { on := 6, ground := Go.Ground.textOnly Go.Departure.lateStores }, { on := 7, ground := Go.Ground.textOnly Go.Departure.lateStoresUnsure }], guard := none }) rfl (by kernel_rfl) (fun K hK => ?g1ro20) ?g1rm20
      case g1rm20 => exact Go.Shr.AllReadyF.nil
      go_simp
      refine hK.out _ _ ?_
      clear hK K
      try simp only [Act.put, List.setIfInBounds_toArray, List.set_cons_zero, List.set_cons_succ]
      refine Go.Shr.wpAnyF_ready [9] (by kernel_rfl) (by simp) ?_
      refine Go.Shr.AllReadyF.last 9 (o := { dst := some 11, op := Go.Op.assign (Go.Operand.tmp 29), type := 30, pos := "more.go:68", after := #[{ on := 7, ground := Go.Ground.data }, { on := 8, ground := Go.Ground.chain }, { on := 0, ground := Go.Ground.phase }, { on := 1, ground := Go.Ground.phase }, { on := 2, ground := Go.Ground.phase }, { on := 3, ground := Go.Ground.phase }, { on := 4, ground := Go.Ground.phase }, { on := 5, ground := Go.Ground.phase }, { on := 6, ground := Go.Ground.phase }, { on := 7, ground := Go.Ground.phase }, { on := 8, ground := Go.Ground.phase }], guard := none }) rfl (by kernel_rfl) (fun K hK => ?g1ro21) ?g1rm21
      case g1rm21 => exact Go.Shr.AllReadyF.nil
      go_simp
      refine hK.out _ _ ?_
      clear hK K
      try simp only [Act.put, List.setIfInBounds_toArray, List.set_cons_zero, List.set_cons_succ]
      refine Go.Shr.wpAnyF_done (by kernel_rfl) ?_
      go_wp2_with fail
      go_meet
      case rel => exact ⟨a3, c3, a7, c7, rfl, rfl, Lib.hid hs3, Lib.hid hs7, Lib.hid HB⟩
    case g1rm16 =>
    exact Go.Shr.AllReadyF.nil
  case rest =>
    obtain ⟨ap, cp, aq, cq, rfl, rfl, HP, HQ, HBC⟩ := hcut
    replace r8 := r8.below HBC.out; replace r9 := r9.below HBC.out
    clear HB tok
    have HB := b0 wc
    have hp := HP.out; have hq := HQ.out
    have HEV := HEQ
    clear HP HQ
    go_wp2_with fail
    refine Go.Shr.wp_region_F (fun w' => (w'.cell? ⟨T, 0, none⟩ = some (.int .i64 tx.n) ∧ w'.cell? ⟨T, 1, none⟩ = some (.string tx.s) ∧ w'.cell? ⟨T, 2, none⟩ = some (.slice ax tx.kids.length cx) ∧ w'.cell? ⟨T + 1, 0, none⟩ = some (.int .i64 ty.n) ∧ w'.cell? ⟨T + 1, 1, none⟩ = some (.string ty.s) ∧ w'.cell? ⟨T + 1, 2, none⟩ = some (.slice ay ty.kids.length cy)) ∧ Sl (fun b => b < w'.heap.size) w' 1 ap (encR sh [tx]).length cp (u8s (encR sh [tx])) ∧ Sl (fun b => b < w'.heap.size) w' 1 aq (encR sh [ty]).length cq (u8s (encR sh [ty]))) [11] (by kernel_rfl) ?g2rgS (fun hHeld => ?g2rgR)
    case g2rgS => (try dsimp only); (first | exact ⟨⟨r8.cell 0, r8.cell 1, r8.cell 2, r9.cell 0, r9.cell 1, r9.cell 2⟩, hp, hq⟩ | exact ⟨⟨r8.cell 0, r8.cell 1, r8.cell 2, r9.cell 0, r9.cell 1, r9.cell 2⟩, hp.drew, hq.drew⟩)
    try dsimp only at hHeld
    obtain ⟨W, hW⟩ : ∃ W, W = wc.drew := ⟨_, rfl⟩; rw [← hW] at hHeld ⊢; (replace r8 := Rw.ren hW r8.drew); (replace r9 := Rw.ren hW r9.drew); (replace hp := Go.Shr.Sl.ren hW hp.drew); (replace hq := Go.Shr.Sl.ren hW hq.drew); (replace HB := Go.Shr.Below.ren hW HB.drew); clear hW
    refine Go.Shr.wpAnyF_take 0 (oi := { dst := some 30, op := Go.Op.move (Go.Operand.tmp 10), type := 30, pos := "more.go:69", after := #[], guard := none }) (v := ?g2rv1) rfl (by kernel_rfl) (fun _ _ _ h => h) (by assumption) (by rfl) ?g2ry1 ?g2rr1
    case g2ry1 => intro w hSw; (obtain ⟨⟨s1, s2, s3, s4, s5, s6⟩, hp', hq'⟩ := hSw); (have cv1 := hp'.toString (P := Try.prog) Try.underlying30 Try.underlying5 Try.underlying9); (have cv2 := hq'.toString (P := Try.prog) Try.underlying30 Try.underlying5 Try.underlying9); clear hp' hq'; go_simp; try with_reducible rfl
    try simp only [Act.put, List.setIfInBounds_toArray, List.set_cons_zero, List.set_cons_succ]
    refine Go.Shr.wpAnyF_take 1 (oi := { dst := some 31, op := Go.Op.convert 30 9 (Go.Operand.tmp 30), type := 9, pos := "more.go:69", after := #[{ on := 0, ground := Go.Ground.data }], guard := none }) (v := ?g2rv2) rfl (by kernel_rfl) (fun _ _ _ h => h) (by assumption) (by rfl) ?g2ry2 ?g2rr2
    case g2ry2 => intro w hSw; (obtain ⟨⟨s1, s2, s3, s4, s5, s6⟩, hp', hq'⟩ := hSw); (have cv1 := hp'.toString (P := Try.prog) Try.underlying30 Try.underlying5 Try.underlying9); (have cv2 := hq'.toString (P := Try.prog) Try.underlying30 Try.underlying5 Try.underlying9); clear hp' hq'; go_simp; try with_reducible rfl
    try simp only [Act.put, List.setIfInBounds_toArray, List.set_cons_zero, List.set_cons_succ]
    refine Go.Shr.wpAnyF_take 2 (oi := { dst := some 32, op := Go.Op.move (Go.Operand.tmp 11), type := 30, pos := "more.go:69", after := #[], guard := none }) (v := ?g2rv3) rfl (by kernel_rfl) (fun _ _ _ h => h) (by assumption) (by rfl) ?g2ry3 ?g2rr3
    case g2ry3 => intro w hSw; (obtain ⟨⟨s1, s2, s3, s4, s5, s6⟩, hp', hq'⟩ := hSw); (have cv1 := hp'.toString (P := Try.prog) Try.underlying30 Try.underlying5 Try.underlying9); (have cv2 := hq'.toString (P := Try.prog) Try.underlying30 Try.underlying5 Try.underlying9); clear hp' hq'; go_simp; try with_reducible rfl
    try simp only [Act.put, List.setIfInBounds_toArray, List.set_cons_zero, List.set_cons_succ]
    refine Go.Shr.wpAnyF_take 3 (oi := { dst := some 33, op := Go.Op.convert 30 9 (Go.Operand.tmp 32), type := 9, pos := "more.go:69", after := #[{ on := 2, ground := Go.Ground.data }], guard := none }) (v := ?g2rv4) rfl (by kernel_rfl) (fun _ _ _ h => h) (by assumption) (by rfl) ?g2ry4 ?g2rr4
    case g2ry4 => intro w hSw; (obtain ⟨⟨s1, s2, s3, s4, s5, s6⟩, hp', hq'⟩ := hSw); (have cv1 := hp'.toString (P := Try.prog) Try.underlying30 Try.underlying5 Try.underlying9); (have cv2 := hq'.toString (P := Try.prog) Try.underlying30 Try.underlying5 Try.underlying9); clear hp' hq'; go_simp; try with_reducible rfl
    try simp only [Act.put, List.setIfInBounds_toArray, List.set_cons_zero, List.set_cons_succ]
    refine Go.Shr.wpAnyF_take 4 (oi := { dst := some 34, op := Go.Op.binOp Go.BinOp.eql 9 (Go.Operand.tmp 31) (Go.Operand.tmp 33) 9, type := 4, pos := "more.go:69", after := #[{ on := 1, ground := Go.Ground.data }, { on := 3, ground := Go.Ground.data }], guard := none }) (v := ?g2rv5) rfl (by kernel_rfl) (fun _ _ _ h => h) (by assumption) (by rfl) ?g2ry5 ?g2rr5
    case g2ry5 => intro w hSw; (obtain ⟨⟨s1, s2, s3, s4, s5, s6⟩, hp', hq'⟩ := hSw); (have cv1 := hp'.toString (P := Try.prog) Try.underlying30 Try.underlying5 Try.underlying9); (have cv2 := hq'.toString (P := Try.prog) Try.underlying30 Try.underlying5 Try.underlying9); clear hp' hq'; go_simp; try with_reducible rfl
    try simp only [Act.put, List.setIfInBounds_toArray, List.set_cons_zero, List.set_cons_succ]
    refine Go.Shr.wpAnyF_take 5 (oi := { dst := some 35, op := Go.Op.load 35 (Go.Operand.tmp 8), type := 35, pos := "more.go:69", after := #[], guard := none }) (v := ?g2rv6) rfl (by kernel_rfl) (fun _ _ _ h => h) (by assumption) (by rfl) ?g2ry6 ?g2rr6
    case g2ry6 => intro w hSw; (obtain ⟨⟨s1, s2, s3, s4, s5, s6⟩, hp', hq'⟩ := hSw); (have cv1 := hp'.toString (P := Try.prog) Try.underlying30 Try.underlying5 Try.underlying9); (have cv2 := hq'.toString (P := Try.prog) Try.underlying30 Try.underlying5 Try.underlying9); clear hp' hq'; go_simp; try with_reducible rfl
    try simp only [Act.put, List.setIfInBounds_toArray, List.set_cons_zero, List.set_cons_succ]
    refine Go.Shr.wpAnyF_take 7 (oi := { dst := some 37, op := Go.Op.load 35 (Go.Operand.tmp 9), type := 35, pos := "more.go:69", after := #[], guard := none }) (v := ?g2rv7) rfl (by kernel_rfl) (fun _ _ _ h => h) (by assumption) (by rfl) ?g2ry7 ?g2rr7
    case g2ry7 => intro w hSw; (obtain ⟨⟨s1, s2, s3, s4, s5, s6⟩, hp', hq'⟩ := hSw); (have cv1 := hp'.toString (P := Try.prog) Try.underlying30 Try.underlying5 Try.underlying9); (have cv2 := hq'.toString (P := Try.prog) Try.underlying30 Try.underlying5 Try.underlying9); clear hp' hq'; go_simp; try with_reducible rfl
    try simp only [Act.put, List.setIfInBounds_toArray, List.set_cons_zero, List.set_cons_succ]
    refine Go.Shr.wpAnyF_ready [6, 8] (by kernel_rfl) (by simp) ?_
    refine Go.Shr.AllReadyF.cons 6 (o := { dst := some 36, op := Go.Op.buildSlice 28 1 #[(0, Go.Operand.tmp 35)], type := 28, pos := "more.go:69", after := #[{ on := 5, ground := Go.Ground.data }], guard := none }) rfl (fun K hK => ?g2ro8) ?g2rm8
    case g2ro8 =>
      (obtain ⟨b6, hb6⟩ : ∃ b6, b6 = W.heap.size := ⟨_, rfl⟩); go_simp; rw [← hb6]; refine gen_w (fun W hW => ?_); (have r6 := Rw.ren hW (Rw.fresh HB #[.int .i64 tx.n, .string tx.s, .slice ax tx.kids.length cx] 35)); rw [← hb6] at r6; (replace r8 := Rw.ren hW (Rw.alloc r8 _)); (replace r9 := Rw.ren hW (Rw.alloc r9 _)); (try replace r7 := Rw.ren hW (Rw.alloc r7 _)); (replace hp := Go.Shr.Sl.ren hW (slb hp (ba (b0 _) _))); (replace hq := Go.Shr.Sl.ren hW (slb hq (ba (b0 _) _))); (replace HB := Go.Shr.Below.ren hW (ba HB _)); clear hW hb6
      refine hK.out _ _ ?g2rs8 (fun hHeld => ?g2rt8)
      case g2rs8 => (try dsimp only); (first | exact ⟨⟨r8.cell 0, r8.cell 1, r8.cell 2, r9.cell 0, r9.cell 1, r9.cell 2⟩, hp, hq⟩ | exact ⟨⟨r8.cell 0, r8.cell 1, r8.cell 2, r9.cell 0, r9.cell 1, r9.cell 2⟩, hp.drew, hq.drew⟩)
      try dsimp only at hHeld
      clear hK K
      try simp only [Act.put, List.setIfInBounds_toArray, List.set_cons_zero, List.set_cons_succ]
      refine Go.Shr.wpAnyF_ready [8] (by kernel_rfl) (by simp) ?_
      refine Go.Shr.AllReadyF.cons 8 (o := { dst := some 38, op := Go.Op.buildSlice 28 1 #[(0, Go.Operand.tmp 37)], type := 28, pos := "more.go:69", after := #[{ on := 7, ground := Go.Ground.data }], guard := none }) rfl (fun K hK => ?g2ro9) ?g2rm9
      case g2rm9 => exact Go.Shr.AllReadyF.nil
      (obtain ⟨b7, hb7⟩ : ∃ b7, b7 = W.heap.size := ⟨_, rfl⟩); go_simp; rw [← hb7]; refine gen_w (fun W hW => ?_); (have r7 := Rw.ren hW (Rw.fresh HB #[.int .i64 ty.n, .string ty.s, .slice ay ty.kids.length cy] 35)); rw [← hb7] at r7; (replace r8 := Rw.ren hW (Rw.alloc r8 _)); (replace r9 := Rw.ren hW (Rw.alloc r9 _)); (try replace r6 := Rw.ren hW (Rw.alloc r6 _)); (replace hp := Go.Shr.Sl.ren hW (slb hp (ba (b0 _) _))); (replace hq := Go.Shr.Sl.ren hW (slb hq (ba (b0 _) _))); (replace HB := Go.Shr.Below.ren hW (ba HB _)); clear hW hb7
      refine hK.out _ _ ?g2rs9 (fun hHeld => ?g2rt9)
      case g2rs9 => (try dsimp only); (first | exact ⟨⟨r8.cell 0, r8.cell 1, r8.cell 2, r9.cell 0, r9.cell 1, r9.cell 2⟩, hp, hq⟩ | exact ⟨⟨r8.cell 0, r8.cell 1, r8.cell 2, r9.cell 0, r9.cell 1, r9.cell 2⟩, hp.drew, hq.drew⟩)
      try dsimp only at hHeld
      clear hK K
      try simp only [Act.put, List.setIfInBounds_toArray, List.set_cons_zero, List.set_cons_succ]
      refine Go.Shr.wpAnyF_ready [9] (by kernel_rfl) (by simp) ?_
      refine Go.Shr.AllReadyF.cons 9 (o := { dst := some 39, op := Go.Op.call { callee := Go.Callee.value (Go.Operand.func 16), args := #[Go.Operand.tmp 36, Go.Operand.tmp 38], argTypes := #[28, 28] }, type := 4, pos := "more.go:69", after := #[{ on := 6, ground := Go.Ground.data }, { on := 8, ground := Go.Ground.data }], guard := none }) rfl (fun K hK => ?g2ro10) ?g2rm10
      case g2rm10 => exact Go.Shr.AllReadyF.nil
      go_simp; refine (trees_v [tx] [ty] (some ⟨b6, 0, none⟩) 1 _ (some ⟨b7, 0, none⟩) 1 _ W (one_sl r6) (one_rw (TrAt.below (bt HBC.out HB) _ _ HTXB.out)) (one_sl r7) (one_rw (TrAt.below (bt HBC.out HB) _ _ HTYB.out))).mono ?_; rintro e W9 ⟨rfl, hb9⟩; dsimp only; refine gen_w (fun W hW => ?_); (replace r8 := Rw.ren hW (Rw.below r8 hb9)); (replace r9 := Rw.ren hW (Rw.below r9 hb9)); (replace hp := Go.Shr.Sl.ren hW (slb hp hb9)); (replace hq := Go.Shr.Sl.ren hW (slb hq hb9)); (replace HB := Go.Shr.Below.ren hW (bt HB hb9)); clear hW hb9
      refine hK.out _ _ ?g2rs10 (fun hHeld => ?g2rt10)
      case g2rs10 => (try dsimp only); (first | exact ⟨⟨r8.cell 0, r8.cell 1, r8.cell 2, r9.cell 0, r9.cell 1, r9.cell 2⟩, hp, hq⟩ | exact ⟨⟨r8.cell 0, r8.cell 1, r8.cell 2, r9.cell 0, r9.cell 1, r9.cell 2⟩, hp.drew, hq.drew⟩)
      try dsimp only at hHeld
      clear hK K
      try simp only [Act.put, List.setIfInBounds_toArray, List.set_cons_zero, List.set_cons_succ]
      refine Go.Shr.wpAnyF_take 10 (oi := { dst := some 40, op := Go.Op.binOp Go.BinOp.eql 4 (Go.Operand.tmp 34) (Go.Operand.tmp 39) 4, type := 4, pos := "more.go:69", after := #[{ on := 4, ground := Go.Ground.data }, { on := 9, ground := Go.Ground.data }], guard := none }) (v := ?g2rv11) rfl (by kernel_rfl) (fun _ _ _ h => h) (by assumption) (by rfl) ?g2ry11 ?g2rr11
      case g2ry11 => intro w hSw; (obtain ⟨⟨s1, s2, s3, s4, s5, s6⟩, hp', hq'⟩ := hSw); (have cv1 := hp'.toString (P := Try.prog) Try.underlying30 Try.underlying5 Try.underlying9); (have cv2 := hq'.toString (P := Try.prog) Try.underlying30 Try.underlying5 Try.underlying9); clear hp' hq'; go_simp; (try with_reducible rfl)
      try simp only [Act.put, List.setIfInBounds_toArray, List.set_cons_zero, List.set_cons_succ]
      refine Go.Shr.wpAnyF_ready [11] (by kernel_rfl) (by simp) ?_
      refine Go.Shr.AllReadyF.last 11 (o := { dst := some 6, op := Go.Op.assign (Go.Operand.tmp 40), type := 4, pos := "more.go:69", after := #[{ on := 10, ground := Go.Ground.data }, { on := 9, ground := Go.Ground.chain }, { on := 0, ground := Go.Ground.phase }, { on := 1, ground := Go.Ground.phase }, { on := 2, ground := Go.Ground.phase }, { on := 3, ground := Go.Ground.phase }, { on := 4, ground := Go.Ground.phase }, { on := 5, ground := Go.Ground.phase }, { on := 6, ground := Go.Ground.phase }, { on := 7, ground := Go.Ground.phase }, { on := 8, ground := Go.Ground.phase }, { on := 9, ground := Go.Ground.phase }, { on := 10, ground := Go.Ground.phase }], guard := none }) rfl (by kernel_rfl) (fun K hK => ?g2ro12) ?g2rm12
      case g2rm12 => exact Go.Shr.AllReadyF.nil
      go_simp
      refine hK.out _ _ ?_
      clear hK K
      try simp only [Act.put, List.setIfInBounds_toArray, List.set_cons_zero, List.set_cons_succ]
      refine Go.Shr.wpAnyF_done (by kernel_rfl) ?_
      go_wp2_with fail
      refine bodyPost_ret (v := .bool true) (by simp [results, Try.results4, go_sem]; exact HEV.out) rfl ?_
      exact ⟨rfl, bt HBB.out (bt HBC.out HB)⟩
    case g2rm8 =>
    refine Go.Shr.AllReadyF.cons 8 (o := { dst := some 38, op := Go.Op.buildSlice 28 1 #[(0, Go.Operand.tmp 37)], type := 28, pos := "more.go:69", after := #[{ on := 7, ground := Go.Ground.data }], guard := none }) rfl (fun K hK => ?g2ro13) ?g2rm13
    case g2ro13 =>
      (obtain ⟨b7, hb7⟩ : ∃ b7, b7 = W.heap.size := ⟨_, rfl⟩); go_simp; rw [← hb7]; refine gen_w (fun W hW => ?_); (have r7 := Rw.ren hW (Rw.fresh HB #[.int .i64 ty.n, .string ty.s, .slice ay ty.kids.length cy] 35)); rw [← hb7] at r7; (replace r8 := Rw.ren hW (Rw.alloc r8 _)); (replace r9 := Rw.ren hW (Rw.alloc r9 _)); (try replace r6 := Rw.ren hW (Rw.alloc r6 _)); (replace hp := Go.Shr.Sl.ren hW (slb hp (ba (b0 _) _))); (replace hq := Go.Shr.Sl.ren hW (slb hq (ba (b0 _) _))); (replace HB := Go.Shr.Below.ren hW (ba HB _)); clear hW hb7
      refine hK.out _ _ ?g2rs13 (fun hHeld => ?g2rt13)
      case g2rs13 => (try dsimp only); (first | exact ⟨⟨r8.cell 0, r8.cell 1, r8.cell 2, r9.cell 0, r9.cell 1, r9.cell 2⟩, hp, hq⟩ | exact ⟨⟨r8.cell 0, r8.cell 1, r8.cell 2, r9.cell 0, r9.cell 1, r9.cell 2⟩, hp.drew, hq.drew⟩)
      try dsimp only at hHeld
      clear hK K
      try simp only [Act.put, List.setIfInBounds_toArray, List.set_cons_zero, List.set_cons_succ]
      refine Go.Shr.wpAnyF_ready [6] (by kernel_rfl) (by simp) ?_
      refine Go.Shr.AllReadyF.cons 6 (o := { dst := some 36, op := Go.Op.buildSlice 28 1 #[(0, Go.Operand.tmp 35)], type := 28, pos := "more.go:69", after := #[{ on := 5, ground := Go.Ground.data }], guard := none }) rfl (fun K hK => ?g2ro14) ?g2rm14
      case g2rm14 => exact Go.Shr.AllReadyF.nil
      (obtain ⟨b6, hb6⟩ : ∃ b6, b6 = W.heap.size := ⟨_, rfl⟩); go_simp; rw [← hb6]; refine gen_w (fun W hW => ?_); (have r6 := Rw.ren hW (Rw.fresh HB #[.int .i64 tx.n, .string tx.s, .slice ax tx.kids.length cx] 35)); rw [← hb6] at r6; (replace r8 := Rw.ren hW (Rw.alloc r8 _)); (replace r9 := Rw.ren hW (Rw.alloc r9 _)); (try replace r7 := Rw.ren hW (Rw.alloc r7 _)); (replace hp := Go.Shr.Sl.ren hW (slb hp (ba (b0 _) _))); (replace hq := Go.Shr.Sl.ren hW (slb hq (ba (b0 _) _))); (replace HB := Go.Shr.Below.ren hW (ba HB _)); clear hW hb6
      refine hK.out _ _ ?g2rs14 (fun hHeld => ?g2rt14)
      case g2rs14 => (try dsimp only); (first | exact ⟨⟨r8.cell 0, r8.cell 1, r8.cell 2, r9.cell 0, r9.cell 1, r9.cell 2⟩, hp, hq⟩ | exact ⟨⟨r8.cell 0, r8.cell 1, r8.cell 2, r9.cell 0, r9.cell 1, r9.cell 2⟩, hp.drew, hq.drew⟩)
      try dsimp only at hHeld
      clear hK K
      try simp only [Act.put, List.setIfInBounds_toArray, List.set_cons_zero, List.set_cons_succ]
      refine Go.Shr.wpAnyF_ready [9] (by kernel_rfl) (by simp) ?_
      refine Go.Shr.AllReadyF.cons 9 (o := { dst := some 39, op := Go.Op.call { callee := Go.Callee.value (Go.Operand.func 16), args := #[Go.Operand.tmp 36, Go.Operand.tmp 38], argTypes := #[28, 28] }, type := 4, pos := "more.go:69", after := #[{ on := 6, ground := Go.Ground.data }, { on := 8, ground := Go.Ground.data }], guard := none }) rfl (fun K hK => ?g2ro15) ?g2rm15
      case g2rm15 => exact Go.Shr.AllReadyF.nil
      go_simp; refine (trees_v [tx] [ty] (some ⟨b6, 0, none⟩) 1 _ (some ⟨b7, 0, none⟩) 1 _ W (one_sl r6) (one_rw (TrAt.below (bt HBC.out HB) _ _ HTXB.out)) (one_sl r7) (one_rw (TrAt.below (bt HBC.out HB) _ _ HTYB.out))).mono ?_; rintro e W9 ⟨rfl, hb9⟩; dsimp only; refine gen_w (fun W hW => ?_); (replace r8 := Rw.ren hW (Rw.below r8 hb9)); (replace r9 := Rw.ren hW (Rw.below r9 hb9)); (replace hp := Go.Shr.Sl.ren hW (slb hp hb9)); (replace hq := Go.Shr.Sl.ren hW (slb hq hb9)); (replace HB := Go.Shr.Below.ren hW (bt HB hb9)); clear hW hb9
      refine hK.out _ _ ?g2rs15 (fun hHeld => ?g2rt15)
      case g2rs15 => (try dsimp only); (first | exact ⟨⟨r8.cell 0, r8.cell 1, r8.cell 2, r9.cell 0, r9.cell 1, r9.cell 2⟩, hp, hq⟩ | exact ⟨⟨r8.cell 0, r8.cell 1, r8.cell 2, r9.cell 0, r9.cell 1, r9.cell 2⟩, hp.drew, hq.drew⟩)
      try dsimp only at hHeld
      clear hK K
      try simp only [Act.put, List.setIfInBounds_toArray, List.set_cons_zero, List.set_cons_succ]
      refine Go.Shr.wpAnyF_take 10 (oi := { dst := some 40, op := Go.Op.binOp Go.BinOp.eql 4 (Go.Operand.tmp 34) (Go.Operand.tmp 39) 4, type := 4, pos := "more.go:69", after := #[{ on := 4, ground := Go.Ground.data }, { on := 9, ground := Go.Ground.data }], guard := none }) (v := ?g2rv16) rfl (by kernel_rfl) (fun _ _ _ h => h) (by assumption) (by rfl) ?g2ry16 ?g2rr16
      case g2ry16 => intro w hSw; (obtain ⟨⟨s1, s2, s3, s4, s5, s6⟩, hp', hq'⟩ := hSw); (have cv1 := hp'.toString (P := Try.prog) Try.underlying30 Try.underlying5 Try.underlying9); (have cv2 := hq'.toString (P := Try.prog) Try.underlying30 Try.underlying5 Try.underlying9); clear hp' hq'; go_simp; (try with_reducible rfl)
      try simp only [Act.put, List.setIfInBounds_toArray, List.set_cons_zero, List.set_cons_succ]
      refine Go.Shr.wpAnyF_ready [11] (by kernel_rfl) (by simp) ?_
      refine Go.Shr.AllReadyF.last 11 (o := { dst := some 6, op := Go.Op.assign (Go.Operand.tmp 40), type := 4, pos := "more.go:69", after := #[{ on := 10, ground := Go.Ground.data }, { on := 9, ground := Go.Ground.chain }, { on := 0, ground := Go.Ground.phase }, { on := 1, ground := Go.Ground.phase }, { on := 2, ground := Go.Ground.phase }, { on := 3, ground := Go.Ground.phase }, { on := 4, ground := Go.Ground.phase }, { on := 5, ground := Go.Ground.phase }, { on := 6, ground := Go.Ground.phase }, { on := 7, ground := Go.Ground.phase }, { on := 8, ground := Go.Ground.phase }, { on := 9, ground := Go.Ground.phase }, { on := 10, ground := Go.Ground.phase }], guard := none }) rfl (by kernel_rfl) (fun K hK => ?g2ro17) ?g2rm17
      case g2rm17 => exact Go.Shr.AllReadyF.nil
      go_simp
      refine hK.out _ _ ?_
      clear hK K
      try simp only [Act.put, List.setIfInBounds_toArray, List.set_cons_zero, List.set_cons_succ]
      refine Go.Shr.wpAnyF_done (by kernel_rfl) ?_
      go_wp2_with fail
      refine bodyPost_ret (v := .bool true) (by simp [results, Try.results4, go_sem]; exact HEV.out) rfl ?_
      exact ⟨rfl, bt HBB.out (bt HBC.out HB)⟩
    case g2rm13 =>
    exact Go.Shr.AllReadyF.nil
end Go.Proofs.Ytofhlopedflkiaa
