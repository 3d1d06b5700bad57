/-
  The walk of ProjectFits.
-/
import Derived.Test.YtgpffcgkfgiodaaRes7
import Derived.Test.YtgpffcgkfgiodaaCheck7
import Derived.Test.YtgpffcgkfgiodaaSame8
import Derived.Test.YtgpffcgkfgiodaaFitR2
import Derived.Deep.CutRange
set_option linter.unusedSimpArgs false
namespace Go.Proofs.Ytgpffcgkfgiodaa
open Go.RowKit Go.Shr
set_option maxHeartbeats 4000000 in
set_option maxRecDepth 100000 in
theorem law_fits (a0 : Option Addr) (n0 c0 : Nat) (z0 : List Int) (a1 : Option Addr) (n1 c1 : Nat) (z1 : List Int) (a3 : Option Addr) (n3 c3 : Nat) (z3 : List Int) (w : World)
    (h0 : Sl (fun b => b < w.heap.size) w 1 a0 n0 c0 (ints z0)) (w0 : ∀ z ∈ z0, (Lit.int .i64 z).wf = true) (h1 : Sl (fun b => b < w.heap.size) w 1 a1 n1 c1 (ints z1)) (_ : ∀ z ∈ z1, (Lit.int .i64 z).wf = true)
    (h3 : Sl (fun b => b < w.heap.size) w 1 a3 n3 c3 (ints z3)) (w3 : ∀ z ∈ z3, (Lit.int .i64 z).wf = true) :
    Calls Try.prog 7 #[.slice a0 n0 c0, .slice a1 n1 c1, .slice a3 n3 c3] w fun e w' => e = .returned (.bool true) ∧ Below w.heap.size w w' := by
  have hn1 : z1.length = n1 := by have := h1.len; rw [ints_length] at this; omega
  subst hn1
  have H0 := Lib.hid h0; have H1 := Lib.hid h1; have W0 := Lib.hid w0; have H3 := Lib.hid h3; have W3 := Lib.hid w3
  clear h0 h1 w0 h3 w3
  go_enter Try.func7, Try.ntmps7
  go_wp2_with fail
  refine ((known7 w).mono ?_)
  rintro e w1 ⟨rfl, hb1⟩
  have HB1 := Lib.hid hb1
  clear hb1
  go_wp2_with fail
  refine ((make5 a0 n0 c0 z0 w1 (slb H0.out HB1.out) W0.out).mono ?_)
  rintro e w2 ⟨aS, cS, rfl, hs, hb2⟩
  have HSW := Lib.hid (make_sw z0)
  have HCK : Hid (∀ ps, allA (makeL z0) ps → CkOk (kL ps (makeL z0) (makeSh z0))) := Lib.hid (fun ps ha => make_ck z0 ha)
  have h2 := make_two z0
  have hl14 := (make_len z0).2
  have HS := Lib.hid (hs.sl.mono (ok' := fun b => b < w2.heap.size) (fun k hk _ => hk) (by decide))
  have HB2 := Lib.hid (bt HB1.out hb2)
  clear hs hb2
  generalize makeL z0 = l at *
  generalize makeSh z0 = sh at *
  have HWY := Lib.hid HSW.out.wy
  have HSC := Lib.hid HSW.out.sch
  go_wp2_with fail
  refine ((make8 aS cS l sh a3 n3 c3 z3 w2 HSC.out HS.out (slb H3.out HB2.out) W3.out).mono ?_)
  rintro e w3 ⟨at', tm, tcap, rfl, ht3, hb3⟩
  have HOK := Lib.hid (ok_make W3.out sh)
  generalize makeT sh z3 = tt at *
  have hta := ht3.at
  obtain rfl := tree_at hta
  have HT := Lib.hid hta
  have HS3 := Lib.hid (slb HS.out hb3)
  have HB3 := Lib.hid (bt HB2.out hb3)
  clear ht3 hta hb3 HS
  go_upto_region 5 with fail
  refine gen_wq (fun wB hwB => ?_)
  have hbB : Below w3.heap.size w3 wB := by rw [hwB]; exact ba (b0 w3) _
  have rT : Rw wB w3.heap.size #[.int .i64 tt.n, .string tt.s, .slice at' tt.kids.length tcap] 48 := by rw [hwB]; exact Rw.new w3 _ _
  clear hwB
  have HSB := Lib.hid (slb HS3.out hbB); have HTB := Lib.hid (TrAt.below hbB _ _ HT.out); have HBB := Lib.hid (bt HB3.out hbB)
  have RT := Lib.hid rT
  generalize w3.heap.size = T at *
  clear hbB rT HS3 HT HB3
  go_wp2_with fail
  refine ((paths_v HWY.out HSC.out.kids h2 aS a1 cS c1 z1 wB HSB.out (slb H1.out HBB.out)).mono ?_)
  rintro e w4 ⟨aA, cA, rfl, hA, hb4⟩
  have HA4 := Lib.hid (hA.sl.mono (ok' := fun b => b < w4.heap.size) (fun k hk _ => hk) (by decide))
  have HS4 := Lib.hid (slb HSB.out hb4); have HBX4 := Lib.hid (bt (b0 wB) hb4)
  have HALL := Lib.hid (pathsOf_allA h2 z1)
  have HPS := Lib.hid (pathsOf_size HWY.out h2 z1)
  have hp4 : (pathsOf l z1).length ≤ 4 := by rw [pathsOf_len]; omega
  clear hA hb4
  generalize pathsOf l z1 = ps at *
  go_wp2_with fail
  refine (res_sw HSW.out aS aA cS cA _ ps w4 rfl (by omega) HS4.out HA4.out HPS.out HALL.out).mono ?_
  rintro e w5 ⟨ak, ck, ap, cp, rfl, hk5, hp5, hb5⟩
  have HK5 := Lib.hid hk5; have HP5 := Lib.hid hp5
  have HS5 := Lib.hid (slb HS4.out hb5); have HBX5 := Lib.hid (bt HBX4.out hb5)
  clear hk5 hp5 hb5 HS4 HA4
  go_wp2_with fail
  refine (res_sw HSW.out aS none cS 0 0 [] w5 rfl (by decide) HS5.out (Sl.nil _ _ _ _) (by simp) (allA_nil l)).mono ?_
  rintro e w6 ⟨aj, cj, aq, cq, rfl, hk6, hp6, hb6⟩
  rw [HSW.out.kL_nil] at hp6 ⊢
  have HJ6 := Lib.hid hk6; have HQ6 := Lib.hid hp6
  have HK6 := Lib.hid (slb HK5.out hb6); have HP6 := Lib.hid (slb HP5.out hb6)
  have HS6 := Lib.hid (slb HS5.out hb6); have HBX6 := Lib.hid (bt HBX5.out hb6)
  clear hk6 hp6 hb6 HK5 HP5 HS5
  go_wp2_with fail
  refine (rcheck_v ap cp _ (HCK.out ps HALL.out) w6 HP6.out).mono ?_
  rintro e w7 ⟨rfl, hb7⟩
  have HJ7 := Lib.hid (slb HJ6.out hb7); have HQ7 := Lib.hid (slb HQ6.out hb7)
  have HK7 := Lib.hid (slb HK6.out hb7); have HP7 := Lib.hid (slb HP6.out hb7)
  have HS7 := Lib.hid (slb HS6.out hb7); have HBX7 := Lib.hid (bt HBX6.out hb7)
  clear hb7 HJ6 HQ6 HK6 HP6 HS6
  go_wp2_with fail
  refine ((same5_v aq aS cq cS l w7 HQ7.out HS7.out).mono ?_)
  rintro e w8 ⟨rfl, hb8⟩
  have HJ8 := Lib.hid (slb HJ7.out hb8)
  have HK8 := Lib.hid (slb HK7.out hb8); have HP8 := Lib.hid (slb HP7.out hb8)
  have HS8 := Lib.hid (slb HS7.out hb8); have HBX8 := Lib.hid (bt HBX7.out hb8)
  clear hb8 HJ7 HQ7 HK7 HP7 HS7
  go_wp2_with fail
  have HKEPT := Lib.hid (HSW.out.kept HALL.out)
  have hok2 : okT (kS ps sh) (keptTW (KW ps) [] sh tt) := okT_pr sh [] tt HSC.out.good HOK.out
  have hfit := fit_okT (kS ps sh) 0 _ HKEPT.out.sch.ix HKEPT.out.sch.good hok2
  have HFIT : Hid (fitT (kL ps l sh) (KF (kL ps l sh)) (keptTW (KW ps) [] sh tt) 0 = 0) := Lib.hid hfit
  have HTRUE : Hid (sameT (keptTW (KW []) [] sh tt) tt = true) := Lib.hid (by rw [KW_nil, keptTW_true sh [] tt HSC.out.good HOK.out]; exact sameT_refl _)
  have RT8 := Lib.hid (RT.out.below HBX8.out)
  have HTT8 := Lib.hid (TrAt.below HBX8.out _ _ HTB.out)
  clear hok2 hfit
  refine Go.Shr.wp_region_F (fun w' => w'.cell? ⟨T, 0, none⟩ = some (.int .i64 tt.n) ∧ w'.cell? ⟨T, 1, none⟩ = some (.string tt.s) ∧ w'.cell? ⟨T, 2, none⟩ = some (.slice at' tt.kids.length tcap)) [] (by kernel_rfl) ?g12rgS (fun hHeld => ?g12rgR)
  case g12rgS => (try dsimp only); (first | exact ⟨RT8.out.cell 0, RT8.out.cell 1, RT8.out.cell 2⟩ | exact ⟨r8.cell 0, r8.cell 1, r8.cell 2⟩)
  try dsimp only at hHeld
  obtain ⟨W, hW⟩ : ∃ W, W = w8.drew := ⟨_, rfl⟩; rw [← hW] at hHeld ⊢; (have r8 := Rw.ren hW RT8.out.drew); (have hb := Go.Shr.Below.ren hW (b0 w8).drew); clear hW
  refine Go.Shr.wpAnyF_take 0 (oi := { dst := some 54, op := Go.Op.move (Go.Operand.tmp 10), type := 25, pos := "law.go:87", after := #[], guard := none }) (v := ?g12rv1) rfl (by kernel_rfl) (fun _ _ _ h => h) (by assumption) (by rfl) ?g12ry1 ?g12rr1
  case g12ry1 => intro w hSw; obtain ⟨s1, s2, s3⟩ := hSw; go_simp; try with_reducible rfl
  try simp only [Act.put, List.setIfInBounds_toArray, List.set_cons_zero, List.set_cons_succ]
  refine Go.Shr.wpAnyF_take 1 (oi := { dst := some 55, op := Go.Op.move (Go.Operand.tmp 7), type := 25, pos := "law.go:87", after := #[], guard := none }) (v := ?g12rv2) rfl (by kernel_rfl) (fun _ _ _ h => h) (by assumption) (by rfl) ?g12ry2 ?g12rr2
  case g12ry2 => intro w hSw; obtain ⟨s1, s2, s3⟩ := hSw; go_simp; try with_reducible rfl
  try simp only [Act.put, List.setIfInBounds_toArray, List.set_cons_zero, List.set_cons_succ]
  refine Go.Shr.wpAnyF_take 2 (oi := { dst := some 56, op := Go.Op.move (Go.Operand.tmp 9), type := 32, pos := "law.go:87", after := #[], guard := none }) (v := ?g12rv3) rfl (by kernel_rfl) (fun _ _ _ h => h) (by assumption) (by rfl) ?g12ry3 ?g12rr3
  case g12ry3 => intro w hSw; obtain ⟨s1, s2, s3⟩ := hSw; go_simp; try with_reducible rfl
  try simp only [Act.put, List.setIfInBounds_toArray, List.set_cons_zero, List.set_cons_succ]
  refine Go.Shr.wpAnyF_take 3 (oi := { dst := some 57, op := Go.Op.load 48 (Go.Operand.tmp 8), type := 48, pos := "law.go:87", after := #[], guard := none }) (v := ?g12rv4) rfl (by kernel_rfl) (fun _ _ _ h => h) (by assumption) (by rfl) ?g12ry4 ?g12rr4
  case g12ry4 => intro w hSw; obtain ⟨s1, s2, s3⟩ := hSw; go_simp; try with_reducible rfl
  try simp only [Act.put, List.setIfInBounds_toArray, List.set_cons_zero, List.set_cons_succ]
  refine Go.Shr.wpAnyF_ready [4] (by kernel_rfl) (by simp) ?_
  refine Go.Shr.AllReadyF.cons 4 (o := { dst := some 58, op := Go.Op.call { callee := Go.Callee.value (Go.Operand.func 23), args := #[Go.Operand.tmp 55, Go.Operand.tmp 56, Go.Operand.tmp 57], argTypes := #[25, 32, 48] }, type := 48, pos := "law.go:87", after := #[{ on := 1, ground := Go.Ground.data }, { on := 2, ground := Go.Ground.data }, { on := 3, ground := Go.Ground.data }], guard := none }) rfl (fun K hK => ?g12ro5) ?g12rm5
  case g12rm5 => exact Go.Shr.AllReadyF.nil
  go_simp; refine (ptree_sw HSW.out ps aS ak at' cS ck tcap tt W (slb HS8.out hb) (slb HK8.out hb) (TrAt.below hb _ _ HTT8.out) HOK.out).mono ?_; rintro e W4 ⟨x4, y4, rfl, ht4, hb4⟩; dsimp only; (replace r8 := r8.below hb4); (have HT4 := Lib.hid ht4); (replace hb := bt hb hb4); clear ht4 hb4
  refine hK.out _ _ ?g12rs5 (fun hHeld => ?g12rt5)
  case g12rs5 => (try dsimp only); (first | exact ⟨RT8.out.cell 0, RT8.out.cell 1, RT8.out.cell 2⟩ | exact ⟨r8.cell 0, r8.cell 1, r8.cell 2⟩)
  try dsimp only at hHeld
  clear hK K
  try simp only [Act.put, List.setIfInBounds_toArray, List.set_cons_zero, List.set_cons_succ]
  refine Go.Shr.wpAnyF_ready [5] (by kernel_rfl) (by simp) ?_
  refine Go.Shr.AllReadyF.cons 5 (o := { dst := some 59, op := Go.Op.call { callee := Go.Callee.value (Go.Operand.func 26), args := #[Go.Operand.tmp 54, Go.Operand.tmp 58], argTypes := #[25, 48] }, type := 3, pos := "law.go:87", after := #[{ on := 0, ground := Go.Ground.data }, { on := 4, ground := Go.Ground.data }, { on := 4, ground := Go.Ground.chain }], guard := none }) rfl (fun K hK => ?g12ro6) ?g12rm6
  case g12rm6 => exact Go.Shr.AllReadyF.nil
  go_simp; refine (rFits_v _ HKEPT.out.sch.wf HKEPT.out.sch.goodK _ ap cp x4 y4 W4 (slb HP8.out hb) HT4.out).mono ?_; rintro e W5 ⟨rfl, hb5⟩; rw [HFIT.out]; dsimp only; (replace r8 := r8.below hb5); (replace hb := bt hb hb5); clear hb5
  refine hK.out _ _ ?g12rs6 (fun hHeld => ?g12rt6)
  case g12rs6 => (try dsimp only); (first | exact ⟨RT8.out.cell 0, RT8.out.cell 1, RT8.out.cell 2⟩ | exact ⟨r8.cell 0, r8.cell 1, r8.cell 2⟩)
  try dsimp only at hHeld
  clear hK K
  try simp only [Act.put, List.setIfInBounds_toArray, List.set_cons_zero, List.set_cons_succ]
  refine Go.Shr.wpAnyF_take 6 (oi := { dst := some 60, op := Go.Op.binOp Go.BinOp.eql 3 (Go.Operand.tmp 59) (Go.Operand.const (Go.Value.int Go.IntKind.i64 0)) 3, type := 4, pos := "law.go:87", after := #[{ on := 5, ground := Go.Ground.data }], guard := none }) (v := ?g12rv7) rfl (by kernel_rfl) (fun _ _ _ h => h) (by assumption) (by rfl) ?g12ry7 ?g12rr7
  case g12ry7 => intro w hSw; obtain ⟨s1, s2, s3⟩ := hSw; go_simp; try with_reducible rfl
  try simp only [Act.put, List.setIfInBounds_toArray, List.set_cons_zero, List.set_cons_succ]
  refine Go.Shr.wpAnyF_take 7 (oi := { dst := some 61, op := Go.Op.move (Go.Operand.tmp 60), type := 4, pos := "law.go:87", after := #[{ on := 6, ground := Go.Ground.data }, { on := 5, ground := Go.Ground.chain }], guard := none }) (v := ?g12rv8) rfl (by kernel_rfl) (fun _ _ _ h => h) (by assumption) (by rfl) ?g12ry8 ?g12rr8
  case g12ry8 => intro w hSw; obtain ⟨s1, s2, s3⟩ := hSw; go_simp; try with_reducible rfl
  try simp only [Act.put, List.setIfInBounds_toArray, List.set_cons_zero, List.set_cons_succ]
  first
    | refine Go.Shr.wpAnyF_skip 8 (oi := { dst := some 62, op := Go.Op.move (Go.Operand.tmp 7), type := 25, pos := "law.go:87", after := #[{ on := 7, ground := Go.Ground.guard }], guard := some (7, true) }) rfl (by kernel_rfl) (fun _ _ _ h => h) (by assumption) (by rfl) ?_
    | (refine Go.Shr.wpAnyF_take 8 (oi := { dst := some 62, op := Go.Op.move (Go.Operand.tmp 7), type := 25, pos := "law.go:87", after := #[{ on := 7, ground := Go.Ground.guard }], guard := some (7, true) }) (v := ?g12rv9) rfl (by kernel_rfl) (fun _ _ _ h => h) (by assumption) (by rfl) ?g12ry9 ?g12rr9
       case g12ry9 => intro w hSw; obtain ⟨s1, s2, s3⟩ := hSw; go_simp; try with_reducible rfl)
  try simp only [Act.put, List.setIfInBounds_toArray, List.set_cons_zero, List.set_cons_succ]
  first
    | refine Go.Shr.wpAnyF_skip 9 (oi := { dst := some 63, op := Go.Op.move (Go.Operand.tmp 12), type := 32, pos := "law.go:87", after := #[{ on := 7, ground := Go.Ground.guard }], guard := some (7, true) }) rfl (by kernel_rfl) (fun _ _ _ h => h) (by assumption) (by rfl) ?_
    | (refine Go.Shr.wpAnyF_take 9 (oi := { dst := some 63, op := Go.Op.move (Go.Operand.tmp 12), type := 32, pos := "law.go:87", after := #[{ on := 7, ground := Go.Ground.guard }], guard := some (7, true) }) (v := ?g12rv10) rfl (by kernel_rfl) (fun _ _ _ h => h) (by assumption) (by rfl) ?g12ry10 ?g12rr10
       case g12ry10 => intro w hSw; obtain ⟨s1, s2, s3⟩ := hSw; go_simp; try with_reducible rfl)
  try simp only [Act.put, List.setIfInBounds_toArray, List.set_cons_zero, List.set_cons_succ]
  first
    | refine Go.Shr.wpAnyF_skip 10 (oi := { dst := some 64, op := Go.Op.load 48 (Go.Operand.tmp 8), type := 48, pos := "law.go:87", after := #[{ on := 7, ground := Go.Ground.guard }], guard := some (7, true) }) rfl (by kernel_rfl) (fun _ _ _ h => h) (by assumption) (by rfl) ?_
    | (refine Go.Shr.wpAnyF_take 10 (oi := { dst := some 64, op := Go.Op.load 48 (Go.Operand.tmp 8), type := 48, pos := "law.go:87", after := #[{ on := 7, ground := Go.Ground.guard }], guard := some (7, true) }) (v := ?g12rv11) rfl (by kernel_rfl) (fun _ _ _ h => h) (by assumption) (by rfl) ?g12ry11 ?g12rr11
       case g12ry11 => intro w hSw; obtain ⟨s1, s2, s3⟩ := hSw; go_simp; try with_reducible rfl)
  try simp only [Act.put, List.setIfInBounds_toArray, List.set_cons_zero, List.set_cons_succ]
  first
    | refine Go.Shr.wpAnyF_skip 12 (oi := { dst := some 66, op := Go.Op.load 48 (Go.Operand.tmp 8), type := 48, pos := "law.go:87", after := #[{ on := 7, ground := Go.Ground.guard }], guard := some (7, true) }) rfl (by kernel_rfl) (fun _ _ _ h => h) (by assumption) (by rfl) ?_
    | (refine Go.Shr.wpAnyF_take 12 (oi := { dst := some 66, op := Go.Op.load 48 (Go.Operand.tmp 8), type := 48, pos := "law.go:87", after := #[{ on := 7, ground := Go.Ground.guard }], guard := some (7, true) }) (v := ?g12rv12) rfl (by kernel_rfl) (fun _ _ _ h => h) (by assumption) (by rfl) ?g12ry12 ?g12rr12
       case g12ry12 => intro w hSw; obtain ⟨s1, s2, s3⟩ := hSw; go_simp; try with_reducible rfl)
  try simp only [Act.put, List.setIfInBounds_toArray, List.set_cons_zero, List.set_cons_succ]
  refine Go.Shr.wpAnyF_ready [11] (by kernel_rfl) (by simp) ?_
  refine Go.Shr.AllReadyF.cons 11 (o := { dst := some 65, op := Go.Op.call { callee := Go.Callee.value (Go.Operand.func 23), args := #[Go.Operand.tmp 62, Go.Operand.tmp 63, Go.Operand.tmp 64], argTypes := #[25, 32, 48] }, type := 48, pos := "law.go:87", after := #[{ on := 8, ground := Go.Ground.data }, { on := 9, ground := Go.Ground.data }, { on := 10, ground := Go.Ground.data }, { on := 7, ground := Go.Ground.chain }, { on := 7, ground := Go.Ground.guard }], guard := some (7, true) }) rfl (fun K hK => ?g12ro13) ?g12rm13
  case g12rm13 => exact Go.Shr.AllReadyF.nil
  go_simp; refine (ptree_sw HSW.out [] aS aj at' cS cj tcap tt W5 (slb HS8.out hb) (slb HJ8.out hb) (TrAt.below hb _ _ HTT8.out) HOK.out).mono ?_; rintro e W11 ⟨x11, y11, rfl, ht11, hb11⟩; dsimp only; (replace r8 := r8.below hb11); (have HT11 := Lib.hid ht11); (replace hb := bt hb hb11); clear ht11 hb11
  refine hK.out _ _ ?g12rs13 (fun hHeld => ?g12rt13)
  case g12rs13 => (try dsimp only); (first | exact ⟨RT8.out.cell 0, RT8.out.cell 1, RT8.out.cell 2⟩ | exact ⟨r8.cell 0, r8.cell 1, r8.cell 2⟩)
  try dsimp only at hHeld
  clear hK K
  try simp only [Act.put, List.setIfInBounds_toArray, List.set_cons_zero, List.set_cons_succ]
  refine Go.Shr.wpAnyF_ready [13] (by kernel_rfl) (by simp) ?_
  refine Go.Shr.AllReadyF.cons 13 (o := { dst := some 67, op := Go.Op.call { callee := Go.Callee.value (Go.Operand.func 22), args := #[Go.Operand.tmp 65, Go.Operand.tmp 66], argTypes := #[48, 48] }, type := 4, pos := "law.go:87", after := #[{ on := 11, ground := Go.Ground.data }, { on := 12, ground := Go.Ground.data }, { on := 11, ground := Go.Ground.chain }, { on := 7, ground := Go.Ground.guard }], guard := some (7, true) }) rfl (fun K hK => ?g12ro14) ?g12rm14
  case g12rm14 => exact Go.Shr.AllReadyF.nil
  go_simp; refine (same_all (_ + 1) _ _ (Nat.lt_succ_self _) x11 at' y11 tcap W11 HT11.out (TrAt.below hb _ _ HTT8.out)).mono ?_; rintro e W13 ⟨rfl, hb13⟩; rw [HTRUE.out]; dsimp only; (replace r8 := r8.below hb13); (replace hb := bt hb hb13); clear hb13
  refine hK.out _ _ ?g12rs14 (fun hHeld => ?g12rt14)
  case g12rs14 => (try dsimp only); (first | exact ⟨RT8.out.cell 0, RT8.out.cell 1, RT8.out.cell 2⟩ | exact ⟨r8.cell 0, r8.cell 1, r8.cell 2⟩)
  try dsimp only at hHeld
  clear hK K
  try simp only [Act.put, List.setIfInBounds_toArray, List.set_cons_zero, List.set_cons_succ]
  refine Go.Shr.wpAnyF_take 14 (oi := { dst := some 68, op := Go.Op.pick (Go.Operand.tmp 61) (Go.Operand.tmp 67) (Go.Operand.const (Go.Value.bool false)), type := 4, pos := "law.go:87", after := #[{ on := 7, ground := Go.Ground.data }, { on := 13, ground := Go.Ground.data }], guard := none }) (v := ?g12rv15) rfl (by kernel_rfl) (fun _ _ _ h => h) (by assumption) (by rfl) ?g12ry15 ?g12rr15
  case g12ry15 => intro w hSw; obtain ⟨s1, s2, s3⟩ := hSw; go_simp; try with_reducible rfl
  try simp only [Act.put, List.setIfInBounds_toArray, List.set_cons_zero, List.set_cons_succ]
  refine Go.Shr.wpAnyF_take 15 (oi := { dst := some 6, op := Go.Op.assign (Go.Operand.tmp 68), type := 4, pos := "law.go:87", after := #[{ on := 14, ground := Go.Ground.data }, { on := 13, ground := Go.Ground.chain }, { on := 0, ground := Go.Ground.phase }, { on := 1, ground := Go.Ground.phase }, { on := 2, ground := Go.Ground.phase }, { on := 3, ground := Go.Ground.phase }, { on := 4, ground := Go.Ground.phase }, { on := 5, ground := Go.Ground.phase }, { on := 6, ground := Go.Ground.phase }, { on := 7, ground := Go.Ground.phase }, { on := 8, ground := Go.Ground.phase }, { on := 9, ground := Go.Ground.phase }, { on := 10, ground := Go.Ground.phase }, { on := 11, ground := Go.Ground.phase }, { on := 12, ground := Go.Ground.phase }, { on := 13, ground := Go.Ground.phase }, { on := 14, ground := Go.Ground.phase }], guard := none }) (v := ?g12rv16) rfl (by kernel_rfl) (fun _ _ _ h => h) (by assumption) (by rfl) ?g12ry16 ?g12rr16
  case g12ry16 => intro w hSw; obtain ⟨s1, s2, s3⟩ := hSw; go_simp; try with_reducible rfl
  try simp only [Act.put, List.setIfInBounds_toArray, List.set_cons_zero, List.set_cons_succ]
  refine Go.Shr.wpAnyF_done (by kernel_rfl) ?_
  have HBF := Lib.hid (bt HBB.out (bt HBX8.out hb))
  clear hHeld r8 hb
  go_wp2_with fail
  go_ret
  exact ⟨rfl, HBF.out⟩
end Go.Proofs.Ytgpffcgkfgiodaa
