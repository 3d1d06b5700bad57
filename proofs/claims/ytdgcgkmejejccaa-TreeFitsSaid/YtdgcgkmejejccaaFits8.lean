/-
  The walk of TreeFits.
-/
import Derived.Test.YtdgcgkmejejccaaFitMk
import Derived.Test.YtdgcgkmejejccaaFew8
import Derived.Test.YtdgcgkmejejccaaTurnA
import Derived.Test.YtdgcgkmejejccaaKnown8
import Derived.Test.YtdgcgkmejejccaaFitR2
set_option linter.unusedSimpArgs false
namespace Go.Proofs.Ytdgcgkmejejccaa
open Go.RowKit Go.Shr
theorem _root_.Go.Shr.TrAt.ren {W X : World} {t : Tr} {cs : List Value} (hW : W = X) (h : TrAt X t cs) : TrAt W t cs := hW ▸ h
set_option maxHeartbeats 1000000 in
set_option maxRecDepth 100000 in
theorem law_fits (a0 : Option Addr) (n0 c0 : Nat) (z0 : List Int) (a1 : Option Addr) (n1 c1 : Nat) (z1 : List Int) (rt : Tr) (ra : Option Addr) (rc : Nat) (a3 : Option Addr) (n3 c3 : Nat) (z3 : List Int) (which n : Int) (s : ByteArray) (w : World) (h0 : Sl (fun b => b < w.heap.size) w 1 a0 n0 c0 (ints z0)) (w0 : ∀ z ∈ z0, (Lit.int .i64 z).wf = true) (h1 : Sl (fun b => b < w.heap.size) w 1 a1 n1 c1 (ints z1)) (w1 : ∀ z ∈ z1, (Lit.int .i64 z).wf = true)
    (hT : TrAt w rt [.int .i64 rt.n, .string rt.s, .slice ra rt.kids.length rc]) (h3 : Sl (fun b => b < w.heap.size) w 1 a3 n3 c3 (ints z3)) (w3 : ∀ z ∈ z3, (Lit.int .i64 z).wf = true) (_ : (Lit.int .i64 which).wf = true) (_ : (Lit.int .i64 n).wf = true) (hs : s.size ≤ maxLen) :
    Calls Try.prog 3 #[.slice a0 n0 c0, .slice a1 n1 c1, .agg #[.int .i64 rt.n, .string rt.s, .slice ra rt.kids.length rc], .slice a3 n3 c3, .int .i64 which, .int .i64 n, .string s] w fun e w' => e = .returned (.bool true) ∧ Below w.heap.size w w' := by
  have H0 := Lib.hid h0; have H1 := Lib.hid h1; have H3 := Lib.hid h3; have W0 := Lib.hid w0; have W1 := Lib.hid w1; have W3 := Lib.hid w3; have HRT := Lib.hid hT
  clear h0 h1 h3 w0 w1 w3 hT
  have hsx := hs
  unfold maxLen at hsx
  go_enter Try.func3, Try.ntmps3
  go_wp2_with fail
  refine cgen (fun wA hwA => ?_)
  have hbA : Below w.heap.size w wA := by rw [hwA]; exact ba (b0 w) _
  have rA : Rw wA w.heap.size #[.int .i64 rt.n, .string rt.s, .slice ra rt.kids.length rc] 25 := by rw [hwA]; exact Rw.new w _ _
  clear hwA
  refine (known8 wA).mono ?_
  rintro e w1 ⟨rfl, hb1⟩
  have HB1 := Lib.hid (bt hbA hb1); have RA1 := Lib.hid (rA.below hb1); clear hb1 hbA rA
  have q0 : w1.cell? ⟨w.heap.size, 0, none⟩ = some (.int .i64 rt.n) := RA1.out.cell 0
  have q1 : w1.cell? ⟨w.heap.size, 1, none⟩ = some (.string rt.s) := RA1.out.cell 1
  have q2 : w1.cell? ⟨w.heap.size, 2, none⟩ = some (.slice ra rt.kids.length rc) := RA1.out.cell 2
  go_wp2_with fail
  refine (few_v rt ra rc w1 (TrAt.below HB1.out _ _ HRT.out)).mono ?_
  rintro e w2 ⟨⟨b, rfl⟩, hb2⟩
  have HB2 := Lib.hid (bt HB1.out hb2); have RA2 := Lib.hid (RA1.out.below hb2)
  clear hb2 q0 q1 q2 RA1 HB1
  cases b with
  | false =>
    go_wp2_with fail
    go_ret
    exact ⟨rfl, HB2.out⟩
  | true =>
  by_cases hsl : 150 < s.size
  · have hsl' : (150 : Int) < (s.size : Int) := by omega
    go_wp2_with fail
    go_ret
    exact ⟨rfl, HB2.out⟩
  have hsl' : ¬ (150 : Int) < (s.size : Int) := by omega
  clear hsl
  go_wp2_with fail
  clear hsl'
  refine (make5 a0 n0 c0 z0 w2 (slb H0.out HB2.out) W0.out).mono ?_
  rintro e w3 ⟨a, cap, rfl, ho, hb3⟩
  have HSC := Lib.hid (Sl.mono (ok' := fun b => b < w3.heap.size) ho.sl (fun k hk _ => hk) (by decide))
  have HB3 := Lib.hid (bt HB2.out hb3); have RA3 := Lib.hid (RA2.out.below hb3)
  clear ho hb3 HB2 RA2
  go_wp2_with fail
  refine (make8 a cap (makeL z0) (makeSh z0) a1 n1 c1 z1 w3 (make_sch z0) HSC.out (slb H1.out HB3.out) W1.out).mono ?_
  rintro e w4 ⟨at', m, tcap, rfl, ht, hb4⟩
  have hfit := (make_sch z0).fit z1
  have hthin := thin_makeT z0 z1
  have hwf := (make_sch z0).wf
  have hG := (make_sch z0).goodK
  generalize makeT (makeSh z0) z1 = tt at *
  have HSCW := Lib.hid (slb HSC.out hb4)
  have HB4 := Lib.hid (bt HB3.out hb4); have RA4 := Lib.hid (RA3.out.below hb4)
  clear HB3 RA3 HSC
  generalize makeL z0 = L at *
  have hta := ht.at
  obtain ⟨_, _, _, xs, hcs, hm, hss, hsl, hk⟩ := hta.parts
  simp at hcs
  obtain ⟨rfl, rfl, rfl⟩ := hcs
  subst hm
  have HWF := Lib.hid hwf; have HGK := Lib.hid hG; have HTH := Lib.hid hthin; have HFIT := Lib.hid hfit
  have HTR := Lib.hid ht
  clear hwf hG hthin hfit ht hb4 hta hsl hk hss
  go_upto_region 7 with fail
  obtain ⟨wB, hwB⟩ : ∃ wB, wB = w4.alloc (.cells #[.int .i64 tt.n, .string tt.s, .slice at' tt.kids.length tcap] 25) := ⟨_, rfl⟩
  have hb5 : Below w4.heap.size w4 wB := by rw [hwB]; exact ba (b0 w4) _
  have rB : Rw wB w4.heap.size #[.int .i64 tt.n, .string tt.s, .slice at' tt.kids.length tcap] 25 := by rw [hwB]; exact Rw.new w4 _ _
  rw [← hwB]
  clear hwB
  have HBB := Lib.hid (bt HB4.out hb5)
  have HTG := Lib.hid (HTR.out.go (ok' := fun b => b < wB.heap.size) (Chg.ofBelow hb5) (fun b hb h => ⟨by omega, by have := hb5.size; omega⟩))
  have HSCB := Lib.hid (slb HSCW.out hb5)
  have HTT := Lib.hid HTG.out.at
  have HRTB := Lib.hid (TrAt.below HBB.out _ _ HRT.out)
  have HRA := Lib.hid (RA4.out.below hb5); have HRB := Lib.hid rB
  have hlt1 := rB.lt
  generalize w4.heap.size = T at *
  clear hb5 rB HTR RA4 HB4 HSCW HRT
  have e1 : ((fitT L (KF L) rt 0) != (fitT L (KF L) rt 0)) = false := by simp
  generalize hFr : fitT L (KF L) rt 0 = Fr at *
  have HFR := Lib.hid hFr; clear hFr
  have r9 := HRA.out; have r16 := HRB.out; have HB := b0 wB
  refine Go.Shr.wp_region_F (fun w' => w'.cell? ⟨w.heap.size, 0, none⟩ = some (.int .i64 rt.n) ∧ w'.cell? ⟨w.heap.size, 1, none⟩ = some (.string rt.s) ∧ w'.cell? ⟨w.heap.size, 2, none⟩ = some (.slice ra rt.kids.length rc) ∧ w'.cell? ⟨T, 0, none⟩ = some (.int .i64 tt.n) ∧ w'.cell? ⟨T, 1, none⟩ = some (.string tt.s) ∧ w'.cell? ⟨T, 2, none⟩ = some (.slice at' tt.kids.length tcap)) [] (by kernel_rfl) ?g2rgS (fun hHeld => ?g2rgR)
  case g2rgS => (try dsimp only); (exact ⟨r9.cell 0, r9.cell 1, r9.cell 2, r16.cell 0, r16.cell 1, r16.cell 2⟩)
  try dsimp only at hHeld
  obtain ⟨W, hW⟩ : ∃ W, W = wB.drew := ⟨_, rfl⟩; rw [← hW] at hHeld ⊢; (replace r9 := Rw.ren hW r9.drew); (replace r16 := Rw.ren hW r16.drew); (replace HB := Go.Shr.Below.ren hW HB.drew); clear hW
  refine Go.Shr.wpAnyF_take 0 (oi := { dst := some 33, op := Go.Op.move (Go.Operand.tmp 15), type := 29, pos := "law.go:122", after := #[], guard := none }) (v := ?g2rv1) rfl (by kernel_rfl) (fun _ _ _ h => h) (by assumption) (by rfl) ?g2ry1 ?g2rr1
  case g2ry1 => intro w hSw; obtain ⟨s1, s2, s3, s4, s5, s6⟩ := hSw; go_simp; try with_reducible rfl
  try simp only [Act.put, List.setIfInBounds_toArray, List.set_cons_zero, List.set_cons_succ]
  refine Go.Shr.wpAnyF_take 1 (oi := { dst := some 34, op := Go.Op.load 25 (Go.Operand.tmp 16), type := 25, pos := "law.go:122", after := #[], guard := none }) (v := ?g2rv2) rfl (by kernel_rfl) (fun _ _ _ h => h) (by assumption) (by rfl) ?g2ry2 ?g2rr2
  case g2ry2 => intro w hSw; obtain ⟨s1, s2, s3, s4, s5, s6⟩ := hSw; go_simp; try with_reducible rfl
  try simp only [Act.put, List.setIfInBounds_toArray, List.set_cons_zero, List.set_cons_succ]
  refine Go.Shr.wpAnyF_ready [2] (by kernel_rfl) (by simp) ?_
  refine Go.Shr.AllReadyF.cons 2 (o := { dst := some 35, op := Go.Op.call { callee := Go.Callee.value (Go.Operand.func 14), args := #[Go.Operand.tmp 33, Go.Operand.tmp 34], argTypes := #[29, 25] }, type := 32, pos := "law.go:122", after := #[{ on := 0, ground := Go.Ground.data }, { on := 1, ground := Go.Ground.data }], guard := none }) rfl (fun K hK => ?g2ro3) ?g2rm3
  case g2rm3 => exact Go.Shr.AllReadyF.nil
  go_simp; refine (Fits_v L HWF.out tt a L.length cap at' tcap W (slb HSCB.out HB) (TrAt.below HB _ _ HTT.out)).mono ?_; rintro e w5 ⟨rfl, hb5⟩; rw [HFIT.out]; dsimp only; refine gen_w (fun W hW => ?_); (replace r9 := Rw.ren hW (Rw.below r9 hb5)); (replace r16 := Rw.ren hW (Rw.below r16 hb5)); (replace HB := Go.Shr.Below.ren hW (bt HB hb5)); clear hW hb5
  refine hK.out _ _ ?g2rs3 (fun hHeld => ?g2rt3)
  case g2rs3 => (try dsimp only); (exact ⟨r9.cell 0, r9.cell 1, r9.cell 2, r16.cell 0, r16.cell 1, r16.cell 2⟩)
  try dsimp only at hHeld
  clear hK K
  try simp only [Act.put, List.setIfInBounds_toArray, List.set_cons_zero, List.set_cons_succ]
  refine Go.Shr.wpAnyF_take 3 (oi := { dst := some 36, op := Go.Op.binOp Go.BinOp.neq 32 (Go.Operand.tmp 35) (Go.Operand.const (Go.Value.int Go.IntKind.i64 0)) 32, type := 4, pos := "law.go:122", after := #[{ on := 2, ground := Go.Ground.data }], guard := none }) (v := ?g2rv4) rfl (by kernel_rfl) (fun _ _ _ h => h) (by assumption) (by rfl) ?g2ry4 ?g2rr4
  case g2ry4 => intro w hSw; obtain ⟨s1, s2, s3, s4, s5, s6⟩ := hSw; go_simp; try with_reducible rfl
  try simp only [Act.put, List.setIfInBounds_toArray, List.set_cons_zero, List.set_cons_succ]
  refine Go.Shr.wpAnyF_take 4 (oi := { dst := some 37, op := Go.Op.move (Go.Operand.tmp 36), type := 4, pos := "law.go:122", after := #[{ on := 3, ground := Go.Ground.data }, { on := 2, ground := Go.Ground.chain }], guard := none }) (v := ?g2rv5) rfl (by kernel_rfl) (fun _ _ _ h => h) (by assumption) (by rfl) ?g2ry5 ?g2rr5
  case g2ry5 => intro w hSw; obtain ⟨s1, s2, s3, s4, s5, s6⟩ := hSw; go_simp; try with_reducible rfl
  try simp only [Act.put, List.setIfInBounds_toArray, List.set_cons_zero, List.set_cons_succ]
  first
    | refine Go.Shr.wpAnyF_skip 5 (oi := { dst := some 38, op := Go.Op.move (Go.Operand.tmp 15), type := 29, pos := "law.go:122", after := #[{ on := 4, ground := Go.Ground.guard }], guard := some (4, false) }) rfl (by kernel_rfl) (fun _ _ _ h => h) (by assumption) (by rfl) ?_
    | (refine Go.Shr.wpAnyF_take 5 (oi := { dst := some 38, op := Go.Op.move (Go.Operand.tmp 15), type := 29, pos := "law.go:122", after := #[{ on := 4, ground := Go.Ground.guard }], guard := some (4, false) }) (v := ?g2rv6) rfl (by kernel_rfl) (fun _ _ _ h => h) (by assumption) (by rfl) ?g2ry6 ?g2rr6
       case g2ry6 => intro w hSw; obtain ⟨s1, s2, s3, s4, s5, s6⟩ := hSw; go_simp; try with_reducible rfl)
  try simp only [Act.put, List.setIfInBounds_toArray, List.set_cons_zero, List.set_cons_succ]
  first
    | refine Go.Shr.wpAnyF_skip 6 (oi := { dst := some 39, op := Go.Op.load 25 (Go.Operand.tmp 9), type := 25, pos := "law.go:122", after := #[{ on := 4, ground := Go.Ground.guard }], guard := some (4, false) }) rfl (by kernel_rfl) (fun _ _ _ h => h) (by assumption) (by rfl) ?_
    | (refine Go.Shr.wpAnyF_take 6 (oi := { dst := some 39, op := Go.Op.load 25 (Go.Operand.tmp 9), type := 25, pos := "law.go:122", after := #[{ on := 4, ground := Go.Ground.guard }], guard := some (4, false) }) (v := ?g2rv7) rfl (by kernel_rfl) (fun _ _ _ h => h) (by assumption) (by rfl) ?g2ry7 ?g2rr7
       case g2ry7 => intro w hSw; obtain ⟨s1, s2, s3, s4, s5, s6⟩ := hSw; go_simp; try with_reducible rfl)
  try simp only [Act.put, List.setIfInBounds_toArray, List.set_cons_zero, List.set_cons_succ]
  first
    | refine Go.Shr.wpAnyF_skip 8 (oi := { dst := some 41, op := Go.Op.move (Go.Operand.tmp 15), type := 29, pos := "law.go:122", after := #[{ on := 4, ground := Go.Ground.guard }], guard := some (4, false) }) rfl (by kernel_rfl) (fun _ _ _ h => h) (by assumption) (by rfl) ?_
    | (refine Go.Shr.wpAnyF_take 8 (oi := { dst := some 41, op := Go.Op.move (Go.Operand.tmp 15), type := 29, pos := "law.go:122", after := #[{ on := 4, ground := Go.Ground.guard }], guard := some (4, false) }) (v := ?g2rv8) rfl (by kernel_rfl) (fun _ _ _ h => h) (by assumption) (by rfl) ?g2ry8 ?g2rr8
       case g2ry8 => intro w hSw; obtain ⟨s1, s2, s3, s4, s5, s6⟩ := hSw; go_simp; try with_reducible rfl)
  try simp only [Act.put, List.setIfInBounds_toArray, List.set_cons_zero, List.set_cons_succ]
  first
    | refine Go.Shr.wpAnyF_skip 9 (oi := { dst := some 42, op := Go.Op.load 25 (Go.Operand.tmp 9), type := 25, pos := "law.go:122", after := #[{ on := 4, ground := Go.Ground.guard }], guard := some (4, false) }) rfl (by kernel_rfl) (fun _ _ _ h => h) (by assumption) (by rfl) ?_
    | (refine Go.Shr.wpAnyF_take 9 (oi := { dst := some 42, op := Go.Op.load 25 (Go.Operand.tmp 9), type := 25, pos := "law.go:122", after := #[{ on := 4, ground := Go.Ground.guard }], guard := some (4, false) }) (v := ?g2rv9) rfl (by kernel_rfl) (fun _ _ _ h => h) (by assumption) (by rfl) ?g2ry9 ?g2rr9
       case g2ry9 => intro w hSw; obtain ⟨s1, s2, s3, s4, s5, s6⟩ := hSw; go_simp; try with_reducible rfl)
  try simp only [Act.put, List.setIfInBounds_toArray, List.set_cons_zero, List.set_cons_succ]
  refine Go.Shr.wpAnyF_ready [7] (by kernel_rfl) (by simp) ?_
  refine Go.Shr.AllReadyF.cons 7 (o := { dst := some 40, op := Go.Op.call { callee := Go.Callee.value (Go.Operand.func 14), args := #[Go.Operand.tmp 38, Go.Operand.tmp 39], argTypes := #[29, 25] }, type := 32, pos := "law.go:122", after := #[{ on := 5, ground := Go.Ground.data }, { on := 6, ground := Go.Ground.data }, { on := 4, ground := Go.Ground.chain }, { on := 4, ground := Go.Ground.guard }], guard := some (4, false) }) rfl (fun K hK => ?g2ro10) ?g2rm10
  case g2rm10 => exact Go.Shr.AllReadyF.nil
  go_simp; refine (Fits_v L HWF.out rt a L.length cap ra rc W (slb HSCB.out HB) (TrAt.below HB _ _ HRTB.out)).mono ?_; rintro e w5 ⟨rfl, hb5⟩; rw [HFR.out]; dsimp only; refine gen_w (fun W hW => ?_); (replace r9 := Rw.ren hW (Rw.below r9 hb5)); (replace r16 := Rw.ren hW (Rw.below r16 hb5)); (replace HB := Go.Shr.Below.ren hW (bt HB hb5)); clear hW hb5
  refine hK.out _ _ ?g2rs10 (fun hHeld => ?g2rt10)
  case g2rs10 => (try dsimp only); (exact ⟨r9.cell 0, r9.cell 1, r9.cell 2, r16.cell 0, r16.cell 1, r16.cell 2⟩)
  try dsimp only at hHeld
  clear hK K
  try simp only [Act.put, List.setIfInBounds_toArray, List.set_cons_zero, List.set_cons_succ]
  refine Go.Shr.wpAnyF_ready [10] (by kernel_rfl) (by simp) ?_
  refine Go.Shr.AllReadyF.cons 10 (o := { dst := some 43, op := Go.Op.call { callee := Go.Callee.value (Go.Operand.func 15), args := #[Go.Operand.tmp 41, Go.Operand.tmp 42], argTypes := #[29, 25] }, type := 3, pos := "law.go:122", after := #[{ on := 8, ground := Go.Ground.data }, { on := 9, ground := Go.Ground.data }, { on := 7, ground := Go.Ground.chain }, { on := 4, ground := Go.Ground.guard }], guard := some (4, false) }) rfl (fun K hK => ?g2ro11) ?g2rm11
  case g2rm11 => exact Go.Shr.AllReadyF.nil
  go_simp; refine (rFits_v L HWF.out HGK.out rt a cap ra rc W (slb HSCB.out HB) (TrAt.below HB _ _ HRTB.out)).mono ?_; rintro e w5 ⟨rfl, hb5⟩; rw [HFR.out]; dsimp only; refine gen_w (fun W hW => ?_); (replace r9 := Rw.ren hW (Rw.below r9 hb5)); (replace r16 := Rw.ren hW (Rw.below r16 hb5)); (replace HB := Go.Shr.Below.ren hW (bt HB hb5)); clear hW hb5
  refine hK.out _ _ ?g2rs11 (fun hHeld => ?g2rt11)
  case g2rs11 => (try dsimp only); (exact ⟨r9.cell 0, r9.cell 1, r9.cell 2, r16.cell 0, r16.cell 1, r16.cell 2⟩)
  try dsimp only at hHeld
  clear hK K
  try simp only [Act.put, List.setIfInBounds_toArray, List.set_cons_zero, List.set_cons_succ]
  first
    | refine Go.Shr.wpAnyF_skip 11 (oi := { dst := some 44, op := Go.Op.binOp Go.BinOp.neq 3 (Go.Operand.tmp 40) (Go.Operand.tmp 43) 3, type := 4, pos := "law.go:122", after := #[{ on := 7, ground := Go.Ground.data }, { on := 10, ground := Go.Ground.data }, { on := 4, ground := Go.Ground.guard }], guard := some (4, false) }) rfl (by kernel_rfl) (fun _ _ _ h => h) (by assumption) (by rfl) ?_
    | (refine Go.Shr.wpAnyF_take 11 (oi := { dst := some 44, op := Go.Op.binOp Go.BinOp.neq 3 (Go.Operand.tmp 40) (Go.Operand.tmp 43) 3, type := 4, pos := "law.go:122", after := #[{ on := 7, ground := Go.Ground.data }, { on := 10, ground := Go.Ground.data }, { on := 4, ground := Go.Ground.guard }], guard := some (4, false) }) (v := ?g2rv12) rfl (by kernel_rfl) (fun _ _ _ h => h) (by assumption) (by rfl) ?g2ry12 ?g2rr12
       case g2ry12 => intro w hSw; obtain ⟨s1, s2, s3, s4, s5, s6⟩ := hSw; go_simp; (try simp only [bne_self_eq_false, beq_self_eq_true, Bool.not_true]); (try with_reducible rfl))
  try simp only [Act.put, List.setIfInBounds_toArray, List.set_cons_zero, List.set_cons_succ]
  refine Go.Shr.wpAnyF_take 12 (oi := { dst := some 45, op := Go.Op.pick (Go.Operand.tmp 37) (Go.Operand.const (Go.Value.bool true)) (Go.Operand.tmp 44), type := 4, pos := "law.go:122", after := #[{ on := 4, ground := Go.Ground.data }, { on := 11, ground := Go.Ground.data }], guard := none }) (v := ?g2rv13) rfl (by kernel_rfl) (fun _ _ _ h => h) (by assumption) (by rfl) ?g2ry13 ?g2rr13
  case g2ry13 => intro w hSw; obtain ⟨s1, s2, s3, s4, s5, s6⟩ := hSw; go_simp; try with_reducible rfl
  try simp only [Act.put, List.setIfInBounds_toArray, List.set_cons_zero, List.set_cons_succ]
  refine Go.Shr.wpAnyF_done (by kernel_rfl) ?_
  clear hHeld
  have z0 : W.cell? ⟨T, 0, none⟩ = some (.int .i64 tt.n) := r16.cell 0
  have z1 : W.cell? ⟨T, 1, none⟩ = some (.string tt.s) := r16.cell 1
  have z2 : W.cell? ⟨T, 2, none⟩ = some (.slice at' tt.kids.length tcap) := r16.cell 2
  have HBW := Lib.hid HB; have R16 := Lib.hid r16
  have HTURN := Lib.hid (turn_v a3 n3 c3 z3 which n s W3.out hs 6 0 rfl)
  have htg := HTG.out.go (ok' := fun b => b < W.heap.size) (Chg.ofBelow HB) (fun b hb h => ⟨by omega, by have := HB.size; omega⟩)
  clear HB r9 r16 e1
  go_wp2_with fail
  refine (HTURN.out (fun b => b < W.heap.size) tt at' tcap W HTH.out htg (fun b hb => hb) (slb H3.out (bt HBB.out HBW.out))).mono ?_
  rintro e w5 ⟨a9, m9, c9, rfl, ht9, hb9⟩
  generalize turnT z3 which n s 6 0 tt = u at *
  have htu := ht9.at
  obtain ⟨_, _, _, _, hcs, hm, _, _, _⟩ := htu.parts
  simp at hcs
  obtain ⟨rfl, rfl, rfl⟩ := hcs
  subst hm
  have HBU := Lib.hid (bt HBW.out hb9)
  have HTU := Lib.hid htu
  clear ht9 htu htg hb9 z0 z1 z2 HTURN
  go_upto_region 10 with fail
  obtain ⟨wD, hwD⟩ : ∃ wD, wD = w5.alloc (.cells #[.int .i64 u.n, .string u.s, .slice a9 u.kids.length c9] 25) := ⟨_, rfl⟩
  have hb6 : Below w5.heap.size w5 wD := by rw [hwD]; exact ba (b0 w5) _
  have r17 : Rw wD w5.heap.size #[.int .i64 u.n, .string u.s, .slice a9 u.kids.length c9] 25 := by rw [hwD]; exact Rw.new w5 _ _
  rw [← hwD]
  clear hwD
  have HBD := Lib.hid (bt HBU.out hb6); have HTD := Lib.hid (TrAt.below hb6 _ _ HTU.out)
  generalize w5.heap.size = U at *
  clear hb6 HBU HTU HBW R16
  have e2 : ((fitT L (KF L) u 0) == (fitT L (KF L) u 0)) = true := by simp
  generalize hFu : fitT L (KF L) u 0 = Fu at *
  have HFU := Lib.hid hFu; clear hFu
  have HB := b0 wD
  refine Go.Shr.wp_region_F (fun w' => w'.cell? ⟨U, 0, none⟩ = some (.int .i64 u.n) ∧ w'.cell? ⟨U, 1, none⟩ = some (.string u.s) ∧ w'.cell? ⟨U, 2, none⟩ = some (.slice a9 u.kids.length c9)) [7] (by kernel_rfl) ?g1rgS (fun hHeld => ?g1rgR)
  case g1rgS => (try dsimp only); (exact ⟨r17.cell 0, r17.cell 1, r17.cell 2⟩)
  try dsimp only at hHeld
  obtain ⟨W, hW⟩ : ∃ W, W = wD.drew := ⟨_, rfl⟩; rw [← hW] at hHeld ⊢; (replace r17 := Rw.ren hW r17.drew); (replace HB := Go.Shr.Below.ren hW HB.drew); clear hW
  refine Go.Shr.wpAnyF_take 0 (oi := { dst := some 52, op := Go.Op.move (Go.Operand.tmp 15), type := 29, pos := "law.go:126", after := #[], guard := none }) (v := ?g1rv1) rfl (by kernel_rfl) (fun _ _ _ h => h) (by assumption) (by rfl) ?g1ry1 ?g1rr1
  case g1ry1 => intro w hSw; obtain ⟨s1, s2, s3⟩ := hSw; go_simp; try with_reducible rfl
  try simp only [Act.put, List.setIfInBounds_toArray, List.set_cons_zero, List.set_cons_succ]
  refine Go.Shr.wpAnyF_take 1 (oi := { dst := some 53, op := Go.Op.load 25 (Go.Operand.tmp 17), type := 25, pos := "law.go:126", after := #[], guard := none }) (v := ?g1rv2) rfl (by kernel_rfl) (fun _ _ _ h => h) (by assumption) (by rfl) ?g1ry2 ?g1rr2
  case g1ry2 => intro w hSw; obtain ⟨s1, s2, s3⟩ := hSw; go_simp; try with_reducible rfl
  try simp only [Act.put, List.setIfInBounds_toArray, List.set_cons_zero, List.set_cons_succ]
  refine Go.Shr.wpAnyF_take 3 (oi := { dst := some 55, op := Go.Op.move (Go.Operand.tmp 15), type := 29, pos := "law.go:126", after := #[], guard := none }) (v := ?g1rv3) rfl (by kernel_rfl) (fun _ _ _ h => h) (by assumption) (by rfl) ?g1ry3 ?g1rr3
  case g1ry3 => intro w hSw; obtain ⟨s1, s2, s3⟩ := hSw; go_simp; try with_reducible rfl
  try simp only [Act.put, List.setIfInBounds_toArray, List.set_cons_zero, List.set_cons_succ]
  refine Go.Shr.wpAnyF_take 4 (oi := { dst := some 56, op := Go.Op.load 25 (Go.Operand.tmp 17), type := 25, pos := "law.go:126", after := #[], guard := none }) (v := ?g1rv4) rfl (by kernel_rfl) (fun _ _ _ h => h) (by assumption) (by rfl) ?g1ry4 ?g1rr4
  case g1ry4 => intro w hSw; obtain ⟨s1, s2, s3⟩ := hSw; go_simp; try with_reducible rfl
  try simp only [Act.put, List.setIfInBounds_toArray, List.set_cons_zero, List.set_cons_succ]
  refine Go.Shr.wpAnyF_ready [2] (by kernel_rfl) (by simp) ?_
  refine Go.Shr.AllReadyF.cons 2 (o := { dst := some 54, op := Go.Op.call { callee := Go.Callee.value (Go.Operand.func 14), args := #[Go.Operand.tmp 52, Go.Operand.tmp 53], argTypes := #[29, 25] }, type := 32, pos := "law.go:126", after := #[{ on := 0, ground := Go.Ground.data }, { on := 1, ground := Go.Ground.data }], guard := none }) rfl (fun K hK => ?g1ro5) ?g1rm5
  case g1rm5 => exact Go.Shr.AllReadyF.nil
  go_simp; refine (Fits_v L HWF.out u a L.length cap a9 c9 W (slb HSCB.out (bt HBD.out HB)) (TrAt.below HB _ _ HTD.out)).mono ?_; rintro e w5 ⟨rfl, hb5⟩; rw [HFU.out]; dsimp only; refine gen_w (fun W hW => ?_); (replace r17 := Rw.ren hW (Rw.below r17 hb5)); (replace HB := Go.Shr.Below.ren hW (bt HB hb5)); clear hW hb5
  refine hK.out _ _ ?g1rs5 (fun hHeld => ?g1rt5)
  case g1rs5 => (try dsimp only); (exact ⟨r17.cell 0, r17.cell 1, r17.cell 2⟩)
  try dsimp only at hHeld
  clear hK K
  try simp only [Act.put, List.setIfInBounds_toArray, List.set_cons_zero, List.set_cons_succ]
  refine Go.Shr.wpAnyF_ready [5] (by kernel_rfl) (by simp) ?_
  refine Go.Shr.AllReadyF.cons 5 (o := { dst := some 57, op := Go.Op.call { callee := Go.Callee.value (Go.Operand.func 15), args := #[Go.Operand.tmp 55, Go.Operand.tmp 56], argTypes := #[29, 25] }, type := 3, pos := "law.go:126", after := #[{ on := 3, ground := Go.Ground.data }, { on := 4, ground := Go.Ground.data }, { on := 2, ground := Go.Ground.chain }], guard := none }) rfl (fun K hK => ?g1ro6) ?g1rm6
  case g1rm6 => exact Go.Shr.AllReadyF.nil
  go_simp; refine (rFits_v L HWF.out HGK.out u a cap a9 c9 W (slb HSCB.out (bt HBD.out HB)) (TrAt.below HB _ _ HTD.out)).mono ?_; rintro e w5 ⟨rfl, hb5⟩; rw [HFU.out]; dsimp only; refine gen_w (fun W hW => ?_); (replace r17 := Rw.ren hW (Rw.below r17 hb5)); (replace HB := Go.Shr.Below.ren hW (bt HB hb5)); clear hW hb5
  refine hK.out _ _ ?g1rs6 (fun hHeld => ?g1rt6)
  case g1rs6 => (try dsimp only); (exact ⟨r17.cell 0, r17.cell 1, r17.cell 2⟩)
  try dsimp only at hHeld
  clear hK K
  try simp only [Act.put, List.setIfInBounds_toArray, List.set_cons_zero, List.set_cons_succ]
  refine Go.Shr.wpAnyF_take 6 (oi := { dst := some 58, op := Go.Op.binOp Go.BinOp.eql 3 (Go.Operand.tmp 54) (Go.Operand.tmp 57) 3, type := 4, pos := "law.go:126", after := #[{ on := 2, ground := Go.Ground.data }, { on := 5, ground := Go.Ground.data }], guard := none }) (v := ?g1rv7) rfl (by kernel_rfl) (fun _ _ _ h => h) (by assumption) (by rfl) ?g1ry7 ?g1rr7
  case g1ry7 => intro w hSw; obtain ⟨s1, s2, s3⟩ := hSw; go_simp; (try simp only [beq_self_eq_true]); (try with_reducible rfl)
  try simp only [Act.put, List.setIfInBounds_toArray, List.set_cons_zero, List.set_cons_succ]
  refine Go.Shr.wpAnyF_ready [7] (by kernel_rfl) (by simp) ?_
  refine Go.Shr.AllReadyF.last 7 (o := { dst := some 14, op := Go.Op.assign (Go.Operand.tmp 58), type := 4, pos := "law.go:126", after := #[{ on := 6, ground := Go.Ground.data }, { on := 5, ground := Go.Ground.chain }, { on := 0, ground := Go.Ground.phase }, { on := 1, ground := Go.Ground.phase }, { on := 2, ground := Go.Ground.phase }, { on := 3, ground := Go.Ground.phase }, { on := 4, ground := Go.Ground.phase }, { on := 5, ground := Go.Ground.phase }, { on := 6, ground := Go.Ground.phase }], guard := none }) rfl (by kernel_rfl) (fun K hK => ?g1ro8) ?g1rm8
  case g1rm8 => exact Go.Shr.AllReadyF.nil
  go_simp
  refine hK.out _ _ ?_
  clear hK K
  try simp only [Act.put, List.setIfInBounds_toArray, List.set_cons_zero, List.set_cons_succ]
  refine Go.Shr.wpAnyF_done (by kernel_rfl) ?_
  go_wp2_with fail
  refine bodyPost_ret (v := .bool true) (by simp [results, Try.results3, go_sem]) rfl ?_
  exact ⟨rfl, bt HBB.out (bt HBD.out HB)⟩
end Go.Proofs.Ytdgcgkmejejccaa
