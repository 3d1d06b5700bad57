/-
  The walk of ProjectTwice.
-/
import Derived.Test.YtgpffcgkfgiodaaRes7
import Derived.Test.YtgpffcgkfgiodaaSame8
import Derived.Deep.CutRange
set_option linter.unusedSimpArgs false
namespace Go.Proofs.Ytgpffcgkfgiodaa
open Go.RowKit Go.Shr
theorem strs_take (ps : List ByteArray) (m : Nat) : (strs ps).take m = strs (ps.take m) := by simp [strs]
set_option maxHeartbeats 4000000 in
set_option maxRecDepth 100000 in
theorem law_twice (a0 : Option Addr) (n0 c0 : Nat) (z0 : List Int) (a1 : Option Addr) (n1 c1 : Nat) (z1 : List Int) (a2 : Option Addr) (n2 c2 : Nat) (z2 : List Int) (a3 : Option Addr) (n3 c3 : Nat) (z3 : List Int) (w : World)
    (h0 : Sl (fun b => b < w.heap.size) w 1 a0 n0 c0 (ints z0)) (w0 : ∀ z ∈ z0, (Lit.int .i64 z).wf = true) (h1 : Sl (fun b => b < w.heap.size) w 1 a1 n1 c1 (ints z1)) (_ : ∀ z ∈ z1, (Lit.int .i64 z).wf = true)
    (h2 : Sl (fun b => b < w.heap.size) w 1 a2 n2 c2 (ints z2)) (_ : ∀ z ∈ z2, (Lit.int .i64 z).wf = true) (h3 : Sl (fun b => b < w.heap.size) w 1 a3 n3 c3 (ints z3)) (w3 : ∀ z ∈ z3, (Lit.int .i64 z).wf = true) :
    Calls Try.prog 8 #[.slice a0 n0 c0, .slice a1 n1 c1, .slice a2 n2 c2, .slice a3 n3 c3] w fun e w' => e = .returned (.bool true) ∧ Below w.heap.size w w' := by
  obtain ⟨it, hit, hz0t, hz1t, hz2t⟩ := info_parts info_s
  have hn1 : z1.length = n1 := by have := h1.len; rw [ints_length] at this; omega
  subst hn1
  have hn2 : z2.length = n2 := by have := h2.len; rw [ints_length] at this; omega
  subst hn2
  have H0 := Lib.hid h0; have H1 := Lib.hid h1; have W0 := Lib.hid w0; have H2 := Lib.hid h2; have H3 := Lib.hid h3; have W3 := Lib.hid w3
  clear h0 h1 w0 h2 h3 w3
  go_enter Try.func8, Try.ntmps8
  go_wp2_with fail
  refine ((known7 w).mono ?_)
  rintro e w1 ⟨rfl, hb1⟩
  have HB1 := Lib.hid hb1
  clear hb1
  go_wp2_with fail
  refine ((make5 a0 n0 c0 z0 w1 (slb H0.out HB1.out) W0.out).mono ?_)
  rintro e w2 ⟨aS, cS, rfl, hs, hb2⟩
  have HSW := Lib.hid (make_sw z0)
  have h2 := make_two z0
  have hl14 := (make_len z0).2
  have HS := Lib.hid (hs.sl.mono (ok' := fun b => b < w2.heap.size) (fun k hk _ => hk) (by decide))
  have HB2 := Lib.hid (bt HB1.out hb2)
  clear hs hb2
  generalize makeL z0 = l at *
  generalize makeSh z0 = sh at *
  have HWY := Lib.hid HSW.out.wy
  have HSC := Lib.hid HSW.out.sch
  go_wp2_with fail
  refine ((make8 aS cS l sh a3 n3 c3 z3 w2 HSC.out HS.out (slb H3.out HB2.out) W3.out).mono ?_)
  rintro e w3 ⟨at', tm, tcap, rfl, ht3, hb3⟩
  have HOK := Lib.hid (ok_make W3.out sh)
  generalize makeT sh z3 = tt at *
  have hta := ht3.at
  obtain rfl := tree_at hta
  have HT := Lib.hid hta
  have HS3 := Lib.hid (slb HS.out hb3)
  have HB3 := Lib.hid (bt HB2.out hb3)
  clear ht3 hta hb3 HS
  go_upto_region 5 with fail
  refine gen_wq (fun wB hwB => ?_)
  have hbB : Below w3.heap.size w3 wB := by rw [hwB]; exact ba (b0 w3) _
  have rT : Rw wB w3.heap.size #[.int .i64 tt.n, .string tt.s, .slice at' tt.kids.length tcap] 48 := by rw [hwB]; exact Rw.new w3 _ _
  clear hwB
  have HSB := Lib.hid (slb HS3.out hbB); have HTB := Lib.hid (TrAt.below hbB _ _ HT.out); have HBB := Lib.hid (bt HB3.out hbB)
  have RT := Lib.hid rT
  generalize w3.heap.size = T at *
  clear hbB rT HS3 HT HB3
  by_cases hz1 : z1.length = 0
  · have e1 : ((z1.length : Int) == 0) = true := beq_iff_eq.2 (by omega)
    clear hz1
    go_wp2_with fail
    go_ret
    exact ⟨rfl, HBB.out⟩
  have e1 : ((z1.length : Int) == 0) = false := beq_eq_false_iff_ne.2 (by omega)
  by_cases hz2 : z2.length = 0
  · have e2 : ((z2.length : Int) == 0) = true := beq_iff_eq.2 (by omega)
    clear hz1 hz2
    go_wp2_with fail
    go_ret
    exact ⟨rfl, HBB.out⟩
  have e2 : ((z2.length : Int) == 0) = false := beq_eq_false_iff_ne.2 (by omega)
  go_wp2_with fail
  refine ((paths_v HWY.out HSC.out.kids h2 aS a1 cS c1 z1 wB HSB.out (slb H1.out HBB.out)).mono ?_)
  rintro e w4 ⟨aA, cA, rfl, hA, hb4⟩
  have hsl4 := hA.sl.mono (ok' := fun b => b < w4.heap.size) (fun k hk _ => hk) (by decide)
  have HS4 := Lib.hid (slb HSB.out hb4); have HBX4 := Lib.hid (bt (b0 wB) hb4)
  have HALL := Lib.hid (pathsOf_allA h2 z1)
  have HPS := Lib.hid (pathsOf_size HWY.out h2 z1)
  have hp4 : (pathsOf l z1).length ≤ 4 := by rw [pathsOf_len]; omega
  have hpp : 0 < (pathsOf l z1).length := by rw [pathsOf_len]; omega
  clear hA hb4
  generalize pathsOf l z1 = ps at *
  obtain ⟨bb, bo, rfl, hbb, hbc⟩ := H2.out.pos (by omega)
  have g0 := cb (bt HBB.out HBX4.out) (hbc _ _ (ints_get z2 0 (by omega)))
  rw [Nat.add_zero] at g0
  generalize z2[0] = zq at *
  have hm1 := Int.emod_nonneg zq (show (ps.length : Int) ≠ 0 by omega)
  have hm2 := Int.emod_lt_of_pos zq (show (0 : Int) < (ps.length : Int) by omega)
  obtain ⟨q, hq⟩ : ∃ q : Nat, zq % (ps.length : Int) = (q : Int) := ⟨(zq % (ps.length : Int)).toNat, by omega⟩
  have HQ := Lib.hid hq
  have hql : q < ps.length := by omega
  have hlen1 : (0 : Int) < (ps.length : Int) := by omega
  have hlen2 : (ps.length : Int) ≤ 1000000 := by omega
  have hw7 := within_7 zq (ps.length : Int) w4 hlen1 hlen2
  have HW7 := Lib.hid hw7
  obtain ⟨a5, hr5, hs5⟩ := Sl.upto (P := Try.prog) (t := 37) Try.underlying37 hit hz1t hsl4 .i64 (1 + (q : Int)) (by omega) (by omega)
  have hqn : (1 + (q : Int)).toNat = q + 1 := by omega
  rw [hqn, Nat.mul_one, strs_take] at hs5
  have HSA := Lib.hid hsl4; have HSB5 := Lib.hid hs5
  have HR5 := Lib.hid hr5
  have HTL : Hid ((ps.take (q + 1)).length = q + 1) := Lib.hid (by rw [List.length_take]; omega)
  have HMEM : Hid (∀ p ∈ ps.take (q + 1), p ∈ ps) := Lib.hid (fun p hp => List.mem_of_mem_take hp)
  have HNE : Hid (ps ≠ []) := Lib.hid (by intro h; rw [h] at hpp; simp at hpp)
  have HNE2 : Hid (ps.take (q + 1) ≠ []) := Lib.hid (by intro h; have := congrArg List.length h; rw [HTL.out] at this; simp at this)
  have hz2p : 0 < z2.length := by omega
  clear hbc hm1 hm2 hq hw7 hsl4 hs5 hr5 hz1 hz2 hqn
  go_wp2_with fail
  refine (HW7.out.mono ?_)
  rintro e w5 ⟨rfl, rfl⟩
  rw [HQ.out]
  have hr5 := HR5.out
  go_wp2_with fail
  clear hr5 HR5 HW7 g0
  have HSQ : Hid (Sl (fun b => b < w4.heap.size) w4 1 a5 (ps.take (q + 1)).length cA (strs (ps.take (q + 1)))) := Lib.hid (by rw [HTL.out]; exact HSB5.out)
  have hqs : (ps.take (q + 1)).length ≤ 1000 := by rw [HTL.out]; omega
  have hq1 : 1 + q = (ps.take (q + 1)).length := by rw [HTL.out]; omega
  have HQ1 := Lib.hid hq1
  have HQPS : Hid (∀ p ∈ ps.take (q + 1), p.size ≤ maxLen) := Lib.hid (fun p hp => HPS.out p (HMEM.out p hp))
  have HQALL : Hid (allA l (ps.take (q + 1))) := Lib.hid (fun p hp => HALL.out p (HMEM.out p hp))
  clear HSB5 HTL HQ
  clear hq1
  have hl1q : 1 + q ≤ 1000 := by omega
  generalize 1 + q = q1 at *
  generalize ps.take (q + 1) = qs at *
  have HK := Lib.hid (HSW.out.kept HALL.out)
  have HPP := Lib.hid (HSW.out.less HALL.out (fun q h => h) HNE.out)
  have HPQ := Lib.hid (HSW.out.less HALL.out HMEM.out HNE2.out)
  have HTP := Lib.hid (HSW.out.less_t HALL.out (fun q h => h) HNE.out tt)
  have HTQ := Lib.hid (HSW.out.less_t HALL.out HMEM.out HNE2.out tt)
  have HAP := Lib.hid (HSW.out.allA_kept HALL.out (fun q h => h))
  have HAQ := Lib.hid (HSW.out.allA_kept HALL.out HMEM.out)
  have HOKX : Hid (okT (kS ps sh) (keptTW (KW ps) [] sh tt)) := Lib.hid (okT_pr sh [] tt HSC.out.good HOK.out)
  refine (res_sw HSW.out aS aA cS cA _ ps w4 rfl (by omega) HS4.out HSA.out HPS.out HALL.out).mono ?_
  rintro e w5 ⟨ak, ck, ap, cp, rfl, hk5, hp5, hb5⟩
  have HK5 := Lib.hid hk5; have HP5 := Lib.hid hp5
  have HS5 := Lib.hid (slb HS4.out hb5); have HBX5 := Lib.hid (bt HBX4.out hb5)
  have HSA5 := Lib.hid (slb HSA.out hb5); have HSQ5 := Lib.hid (slb HSQ.out hb5)
  clear hk5 hp5 hb5 HS4 HSA HSQ
  go_wp2_with fail
  refine (res_sw HK.out ap aA cp cA _ ps w5 rfl (by omega) HP5.out HSA5.out HPS.out HAP.out).mono ?_
  rintro e w6 ⟨aj, cj, aq, cq, rfl, hk6, hp6, hb6⟩
  rw [HPP.out.2] at hp6 ⊢
  have HJ6 := Lib.hid hk6; have HQ6 := Lib.hid hp6
  have HK6 := Lib.hid (slb HK5.out hb6); have HP6 := Lib.hid (slb HP5.out hb6)
  have HS6 := Lib.hid (slb HS5.out hb6); have HBX6 := Lib.hid (bt HBX5.out hb6)
  have HSQ6 := Lib.hid (slb HSQ5.out hb6)
  clear hk6 hp6 hb6 HK5 HP5 HS5 HSA5 HSQ5
  go_wp2_with fail
  refine (res_sw HK.out ap a5 cp cA _ qs w6 HQ1.out hqs HP6.out HSQ6.out HQPS.out HAQ.out).mono ?_
  rintro e w7 ⟨am, cm, ar, cr, rfl, hk7, hp7, hb7⟩
  rw [HPQ.out.2] at hp7 ⊢
  have HM7 := Lib.hid hk7; have HR7 := Lib.hid hp7
  have HJ7 := Lib.hid (slb HJ6.out hb7); have HQ7 := Lib.hid (slb HQ6.out hb7)
  have HK7 := Lib.hid (slb HK6.out hb7); have HP7 := Lib.hid (slb HP6.out hb7)
  have HS7 := Lib.hid (slb HS6.out hb7); have HBX7 := Lib.hid (bt HBX6.out hb7)
  have HSQ7 := Lib.hid (slb HSQ6.out hb7)
  clear hk7 hp7 hb7 HJ6 HQ6 HK6 HP6 HS6 HSQ6
  go_wp2_with fail
  refine (res_sw HSW.out aS a5 cS cA _ qs w7 HQ1.out hqs HS7.out HSQ7.out HQPS.out HQALL.out).mono ?_
  rintro e w8 ⟨an, cn, aw, cw, rfl, hk8, hp8, hb8⟩
  have HN8 := Lib.hid hk8; have HW8 := Lib.hid hp8
  have HM8 := Lib.hid (slb HM7.out hb8); have HR8 := Lib.hid (slb HR7.out hb8)
  have HJ8 := Lib.hid (slb HJ7.out hb8); have HQ8 := Lib.hid (slb HQ7.out hb8)
  have HK8 := Lib.hid (slb HK7.out hb8); have HP8 := Lib.hid (slb HP7.out hb8)
  have HS8 := Lib.hid (slb HS7.out hb8); have HBX8 := Lib.hid (bt HBX7.out hb8)
  clear hk8 hp8 hb8 HJ7 HQ7 HK7 HP7 HS7 HSQ7 HM7 HR7
  go_wp2_with fail
  refine ((same5_v ap aq cp cq _ w8 HP8.out HQ8.out).mono ?_)
  rintro e w9 ⟨rfl, hb9⟩
  have HR9 := Lib.hid (slb HR8.out hb9); have HW9 := Lib.hid (slb HW8.out hb9)
  have HB89 := Lib.hid (bt (b0 w8) hb9)
  clear hb9
  go_wp2_with fail
  refine ((same5_v ar aw cr cw _ w9 HR9.out HW9.out).mono ?_)
  rintro e w10 ⟨rfl, hb10⟩
  have HB10 := Lib.hid (bt HB89.out hb10)
  clear hb10 HR9 HW9 HB89
  have HBX10 := Lib.hid (bt HBX8.out HB10.out)
  have RT10 := Lib.hid (RT.out.below HBX10.out)
  have HTT10 := Lib.hid (TrAt.below HBX10.out _ _ HTB.out)
  have HS10 := Lib.hid (slb HS8.out HB10.out); have HP10 := Lib.hid (slb HP8.out HB10.out)
  have HK10 := Lib.hid (slb HK8.out HB10.out); have HJ10 := Lib.hid (slb HJ8.out HB10.out)
  have HM10 := Lib.hid (slb HM8.out HB10.out); have HN10 := Lib.hid (slb HN8.out HB10.out)
  clear HS8 HP8 HK8 HJ8 HM8 HN8 HB10 HBX8 HQ8 HR8 HW8
  have z0 : w10.cell? ⟨T, 0, none⟩ = some (.int .i64 tt.n) := RT10.out.cell 0
  have z1' : w10.cell? ⟨T, 1, none⟩ = some (.string tt.s) := RT10.out.cell 1
  have z2' : w10.cell? ⟨T, 2, none⟩ = some (.slice at' tt.kids.length tcap) := RT10.out.cell 2
  go_wp2_with fail
  refine (ptree_sw HSW.out ps aS ak at' cS ck tcap tt w10 HS10.out HK10.out HTT10.out HOK.out).mono ?_
  rintro e w11 ⟨ax, cx, rfl, ht11, hb11⟩
  have HX11 := Lib.hid ht11; have HB11 := Lib.hid hb11
  have HTP' := HTP; have HTQ' := HTQ
  generalize keptTW (KW ps) [] sh tt = x at *
  clear ht11 hb11 z0 z1' z2'
  go_upto_region 16 with fail
  refine gen_wq (fun wC hwC => ?_)
  have hbC : Below w11.heap.size w11 wC := by rw [hwC]; exact ba (b0 w11) _
  have rX : Rw wC w11.heap.size #[.int .i64 x.n, .string x.s, .slice ax x.kids.length cx] 48 := by rw [hwC]; exact Rw.new w11 _ _
  clear hwC
  have HBC := Lib.hid (bt HB11.out hbC)
  have RX := Lib.hid rX
  have HXC := Lib.hid (TrAt.below hbC _ _ HX11.out)
  generalize w11.heap.size = X at *
  clear hbC rX HX11 HB11
  have RTC := Lib.hid (RT10.out.below HBC.out)
  have HTTC := Lib.hid (TrAt.below HBC.out _ _ HTT10.out)
  have HSC' := Lib.hid (slb HS10.out HBC.out); have HPC := Lib.hid (slb HP10.out HBC.out)
  have HJC := Lib.hid (slb HJ10.out HBC.out); have HMC := Lib.hid (slb HM10.out HBC.out); have HNC := Lib.hid (slb HN10.out HBC.out)
  have HS1 : Hid (sameT (keptTW (KW ps) [] (kS ps sh) x) x = true) := Lib.hid (by rw [HTP.out]; exact sameT_refl _)
  have HS2 : Hid (sameT (keptTW (KW qs) [] (kS ps sh) x) (keptTW (KW qs) [] sh tt) = true) := Lib.hid (by rw [HTQ.out]; exact sameT_refl _)
  refine Go.Shr.wp_region_F (fun w' => (w'.cell? ⟨T, 0, none⟩ = some (.int .i64 tt.n) ∧ w'.cell? ⟨T, 1, none⟩ = some (.string tt.s) ∧ w'.cell? ⟨T, 2, none⟩ = some (.slice at' tt.kids.length tcap)) ∧ w'.cell? ⟨X, 0, none⟩ = some (.int .i64 x.n) ∧ w'.cell? ⟨X, 1, none⟩ = some (.string x.s) ∧ w'.cell? ⟨X, 2, none⟩ = some (.slice ax x.kids.length cx)) [] (by kernel_rfl) ?g9rgS (fun hHeld => ?g9rgR)
  case g9rgS => (try dsimp only); (first | exact ⟨⟨RTC.out.cell 0, RTC.out.cell 1, RTC.out.cell 2⟩, RX.out.cell 0, RX.out.cell 1, RX.out.cell 2⟩ | exact ⟨⟨r8.cell 0, r8.cell 1, r8.cell 2⟩, rx.cell 0, rx.cell 1, rx.cell 2⟩)
  try dsimp only at hHeld
  obtain ⟨W, hW⟩ : ∃ W, W = wC.drew := ⟨_, rfl⟩; rw [← hW] at hHeld ⊢; (have r8 := Rw.ren hW RTC.out.drew); (have rx := Rw.ren hW RX.out.drew); (have hb := Go.Shr.Below.ren hW (b0 wC).drew); clear hW
  refine Go.Shr.wpAnyF_take 0 (oi := { dst := some 111, op := Go.Op.move (Go.Operand.tmp 14), type := 25, pos := "law.go:110", after := #[], guard := none }) (v := ?g9rv1) rfl (by kernel_rfl) (fun _ _ _ h => h) (by assumption) (by rfl) ?g9ry1 ?g9rr1
  case g9ry1 => intro w hSw; obtain ⟨⟨s1, s2, s3⟩, s4, s5, s6⟩ := hSw; go_simp; try with_reducible rfl
  try simp only [Act.put, List.setIfInBounds_toArray, List.set_cons_zero, List.set_cons_succ]
  refine Go.Shr.wpAnyF_take 1 (oi := { dst := some 112, op := Go.Op.move (Go.Operand.tmp 16), type := 32, pos := "law.go:110", after := #[], guard := none }) (v := ?g9rv2) rfl (by kernel_rfl) (fun _ _ _ h => h) (by assumption) (by rfl) ?g9ry2 ?g9rr2
  case g9ry2 => intro w hSw; obtain ⟨⟨s1, s2, s3⟩, s4, s5, s6⟩ := hSw; go_simp; try with_reducible rfl
  try simp only [Act.put, List.setIfInBounds_toArray, List.set_cons_zero, List.set_cons_succ]
  refine Go.Shr.wpAnyF_take 2 (oi := { dst := some 113, op := Go.Op.load 48 (Go.Operand.tmp 25), type := 48, pos := "law.go:110", after := #[], guard := none }) (v := ?g9rv3) rfl (by kernel_rfl) (fun _ _ _ h => h) (by assumption) (by rfl) ?g9ry3 ?g9rr3
  case g9ry3 => intro w hSw; obtain ⟨⟨s1, s2, s3⟩, s4, s5, s6⟩ := hSw; go_simp; try with_reducible rfl
  try simp only [Act.put, List.setIfInBounds_toArray, List.set_cons_zero, List.set_cons_succ]
  refine Go.Shr.wpAnyF_take 4 (oi := { dst := some 115, op := Go.Op.load 48 (Go.Operand.tmp 25), type := 48, pos := "law.go:110", after := #[], guard := none }) (v := ?g9rv4) rfl (by kernel_rfl) (fun _ _ _ h => h) (by assumption) (by rfl) ?g9ry4 ?g9rr4
  case g9ry4 => intro w hSw; obtain ⟨⟨s1, s2, s3⟩, s4, s5, s6⟩ := hSw; go_simp; try with_reducible rfl
  try simp only [Act.put, List.setIfInBounds_toArray, List.set_cons_zero, List.set_cons_succ]
  refine Go.Shr.wpAnyF_ready [3] (by kernel_rfl) (by simp) ?_
  refine Go.Shr.AllReadyF.cons 3 (o := { dst := some 114, op := Go.Op.call { callee := Go.Callee.value (Go.Operand.func 23), args := #[Go.Operand.tmp 111, Go.Operand.tmp 112, Go.Operand.tmp 113], argTypes := #[25, 32, 48] }, type := 48, pos := "law.go:110", after := #[{ on := 0, ground := Go.Ground.data }, { on := 1, ground := Go.Ground.data }, { on := 2, ground := Go.Ground.data }], guard := none }) rfl (fun K hK => ?g9ro5) ?g9rm5
  case g9rm5 => exact Go.Shr.AllReadyF.nil
  go_simp; refine (ptree_sw HK.out ps ap aj ax cp cj cx x W (slb HPC.out hb) (slb HJC.out hb) (TrAt.below hb _ _ HXC.out) HOKX.out).mono ?_; rintro e W4 ⟨x4, y4, rfl, ht4, hb4⟩; dsimp only; (replace r8 := r8.below hb4); (replace rx := rx.below hb4); (have HT4 := Lib.hid ht4); (replace hb := bt hb hb4); clear ht4 hb4
  refine hK.out _ _ ?g9rs5 (fun hHeld => ?g9rt5)
  case g9rs5 => (try dsimp only); (first | exact ⟨⟨RTC.out.cell 0, RTC.out.cell 1, RTC.out.cell 2⟩, RX.out.cell 0, RX.out.cell 1, RX.out.cell 2⟩ | exact ⟨⟨r8.cell 0, r8.cell 1, r8.cell 2⟩, rx.cell 0, rx.cell 1, rx.cell 2⟩)
  try dsimp only at hHeld
  clear hK K
  try simp only [Act.put, List.setIfInBounds_toArray, List.set_cons_zero, List.set_cons_succ]
  refine Go.Shr.wpAnyF_ready [5] (by kernel_rfl) (by simp) ?_
  refine Go.Shr.AllReadyF.cons 5 (o := { dst := some 116, op := Go.Op.call { callee := Go.Callee.value (Go.Operand.func 22), args := #[Go.Operand.tmp 114, Go.Operand.tmp 115], argTypes := #[48, 48] }, type := 4, pos := "law.go:110", after := #[{ on := 3, ground := Go.Ground.data }, { on := 4, ground := Go.Ground.data }, { on := 3, ground := Go.Ground.chain }], guard := none }) rfl (fun K hK => ?g9ro6) ?g9rm6
  case g9rm6 => exact Go.Shr.AllReadyF.nil
  go_simp; refine (same_all (_ + 1) _ _ (Nat.lt_succ_self _) x4 ax y4 cx W4 HT4.out (TrAt.below hb _ _ HXC.out)).mono ?_; rintro e W5 ⟨rfl, hb5⟩; rw [HS1.out]; dsimp only; (replace r8 := r8.below hb5); (replace rx := rx.below hb5); (replace hb := bt hb hb5); clear hb5
  refine hK.out _ _ ?g9rs6 (fun hHeld => ?g9rt6)
  case g9rs6 => (try dsimp only); (first | exact ⟨⟨RTC.out.cell 0, RTC.out.cell 1, RTC.out.cell 2⟩, RX.out.cell 0, RX.out.cell 1, RX.out.cell 2⟩ | exact ⟨⟨r8.cell 0, r8.cell 1, r8.cell 2⟩, rx.cell 0, rx.cell 1, rx.cell 2⟩)
  try dsimp only at hHeld
  clear hK K
  try simp only [Act.put, List.setIfInBounds_toArray, List.set_cons_zero, List.set_cons_succ]
  refine Go.Shr.wpAnyF_take 6 (oi := { dst := some 117, op := Go.Op.move (Go.Operand.tmp 116), type := 4, pos := "law.go:110", after := #[{ on := 5, ground := Go.Ground.data }, { on := 5, ground := Go.Ground.chain }], guard := none }) (v := ?g9rv7) rfl (by kernel_rfl) (fun _ _ _ h => h) (by assumption) (by rfl) ?g9ry7 ?g9rr7
  case g9ry7 => intro w hSw; obtain ⟨⟨s1, s2, s3⟩, s4, s5, s6⟩ := hSw; go_simp; try with_reducible rfl
  try simp only [Act.put, List.setIfInBounds_toArray, List.set_cons_zero, List.set_cons_succ]
  first
    | refine Go.Shr.wpAnyF_skip 7 (oi := { dst := some 118, op := Go.Op.move (Go.Operand.tmp 14), type := 25, pos := "law.go:110", after := #[{ on := 6, ground := Go.Ground.guard }], guard := some (6, true) }) rfl (by kernel_rfl) (fun _ _ _ h => h) (by assumption) (by rfl) ?_
    | (refine Go.Shr.wpAnyF_take 7 (oi := { dst := some 118, op := Go.Op.move (Go.Operand.tmp 14), type := 25, pos := "law.go:110", after := #[{ on := 6, ground := Go.Ground.guard }], guard := some (6, true) }) (v := ?g9rv8) rfl (by kernel_rfl) (fun _ _ _ h => h) (by assumption) (by rfl) ?g9ry8 ?g9rr8
       case g9ry8 => intro w hSw; obtain ⟨⟨s1, s2, s3⟩, s4, s5, s6⟩ := hSw; go_simp; try with_reducible rfl)
  try simp only [Act.put, List.setIfInBounds_toArray, List.set_cons_zero, List.set_cons_succ]
  first
    | refine Go.Shr.wpAnyF_skip 8 (oi := { dst := some 119, op := Go.Op.move (Go.Operand.tmp 19), type := 32, pos := "law.go:110", after := #[{ on := 6, ground := Go.Ground.guard }], guard := some (6, true) }) rfl (by kernel_rfl) (fun _ _ _ h => h) (by assumption) (by rfl) ?_
    | (refine Go.Shr.wpAnyF_take 8 (oi := { dst := some 119, op := Go.Op.move (Go.Operand.tmp 19), type := 32, pos := "law.go:110", after := #[{ on := 6, ground := Go.Ground.guard }], guard := some (6, true) }) (v := ?g9rv9) rfl (by kernel_rfl) (fun _ _ _ h => h) (by assumption) (by rfl) ?g9ry9 ?g9rr9
       case g9ry9 => intro w hSw; obtain ⟨⟨s1, s2, s3⟩, s4, s5, s6⟩ := hSw; go_simp; try with_reducible rfl)
  try simp only [Act.put, List.setIfInBounds_toArray, List.set_cons_zero, List.set_cons_succ]
  first
    | refine Go.Shr.wpAnyF_skip 9 (oi := { dst := some 120, op := Go.Op.load 48 (Go.Operand.tmp 25), type := 48, pos := "law.go:110", after := #[{ on := 6, ground := Go.Ground.guard }], guard := some (6, true) }) rfl (by kernel_rfl) (fun _ _ _ h => h) (by assumption) (by rfl) ?_
    | (refine Go.Shr.wpAnyF_take 9 (oi := { dst := some 120, op := Go.Op.load 48 (Go.Operand.tmp 25), type := 48, pos := "law.go:110", after := #[{ on := 6, ground := Go.Ground.guard }], guard := some (6, true) }) (v := ?g9rv10) rfl (by kernel_rfl) (fun _ _ _ h => h) (by assumption) (by rfl) ?g9ry10 ?g9rr10
       case g9ry10 => intro w hSw; obtain ⟨⟨s1, s2, s3⟩, s4, s5, s6⟩ := hSw; go_simp; try with_reducible rfl)
  try simp only [Act.put, List.setIfInBounds_toArray, List.set_cons_zero, List.set_cons_succ]
  first
    | refine Go.Shr.wpAnyF_skip 11 (oi := { dst := some 122, op := Go.Op.move (Go.Operand.tmp 9), type := 25, pos := "law.go:110", after := #[{ on := 6, ground := Go.Ground.guard }], guard := some (6, true) }) rfl (by kernel_rfl) (fun _ _ _ h => h) (by assumption) (by rfl) ?_
    | (refine Go.Shr.wpAnyF_take 11 (oi := { dst := some 122, op := Go.Op.move (Go.Operand.tmp 9), type := 25, pos := "law.go:110", after := #[{ on := 6, ground := Go.Ground.guard }], guard := some (6, true) }) (v := ?g9rv11) rfl (by kernel_rfl) (fun _ _ _ h => h) (by assumption) (by rfl) ?g9ry11 ?g9rr11
       case g9ry11 => intro w hSw; obtain ⟨⟨s1, s2, s3⟩, s4, s5, s6⟩ := hSw; go_simp; try with_reducible rfl)
  try simp only [Act.put, List.setIfInBounds_toArray, List.set_cons_zero, List.set_cons_succ]
  first
    | refine Go.Shr.wpAnyF_skip 12 (oi := { dst := some 123, op := Go.Op.move (Go.Operand.tmp 22), type := 32, pos := "law.go:110", after := #[{ on := 6, ground := Go.Ground.guard }], guard := some (6, true) }) rfl (by kernel_rfl) (fun _ _ _ h => h) (by assumption) (by rfl) ?_
    | (refine Go.Shr.wpAnyF_take 12 (oi := { dst := some 123, op := Go.Op.move (Go.Operand.tmp 22), type := 32, pos := "law.go:110", after := #[{ on := 6, ground := Go.Ground.guard }], guard := some (6, true) }) (v := ?g9rv12) rfl (by kernel_rfl) (fun _ _ _ h => h) (by assumption) (by rfl) ?g9ry12 ?g9rr12
       case g9ry12 => intro w hSw; obtain ⟨⟨s1, s2, s3⟩, s4, s5, s6⟩ := hSw; go_simp; try with_reducible rfl)
  try simp only [Act.put, List.setIfInBounds_toArray, List.set_cons_zero, List.set_cons_succ]
  first
    | refine Go.Shr.wpAnyF_skip 13 (oi := { dst := some 124, op := Go.Op.load 48 (Go.Operand.tmp 10), type := 48, pos := "law.go:110", after := #[{ on := 6, ground := Go.Ground.guard }], guard := some (6, true) }) rfl (by kernel_rfl) (fun _ _ _ h => h) (by assumption) (by rfl) ?_
    | (refine Go.Shr.wpAnyF_take 13 (oi := { dst := some 124, op := Go.Op.load 48 (Go.Operand.tmp 10), type := 48, pos := "law.go:110", after := #[{ on := 6, ground := Go.Ground.guard }], guard := some (6, true) }) (v := ?g9rv13) rfl (by kernel_rfl) (fun _ _ _ h => h) (by assumption) (by rfl) ?g9ry13 ?g9rr13
       case g9ry13 => intro w hSw; obtain ⟨⟨s1, s2, s3⟩, s4, s5, s6⟩ := hSw; go_simp; try with_reducible rfl)
  try simp only [Act.put, List.setIfInBounds_toArray, List.set_cons_zero, List.set_cons_succ]
  refine Go.Shr.wpAnyF_ready [10] (by kernel_rfl) (by simp) ?_
  refine Go.Shr.AllReadyF.cons 10 (o := { dst := some 121, op := Go.Op.call { callee := Go.Callee.value (Go.Operand.func 23), args := #[Go.Operand.tmp 118, Go.Operand.tmp 119, Go.Operand.tmp 120], argTypes := #[25, 32, 48] }, type := 48, pos := "law.go:110", after := #[{ on := 7, ground := Go.Ground.data }, { on := 8, ground := Go.Ground.data }, { on := 9, ground := Go.Ground.data }, { on := 6, ground := Go.Ground.chain }, { on := 6, ground := Go.Ground.guard }], guard := some (6, true) }) rfl (fun K hK => ?g9ro14) ?g9rm14
  case g9rm14 => exact Go.Shr.AllReadyF.nil
  go_simp; refine (ptree_sw HK.out qs ap am ax cp cm cx x W5 (slb HPC.out hb) (slb HMC.out hb) (TrAt.below hb _ _ HXC.out) HOKX.out).mono ?_; rintro e W10 ⟨x10, y10, rfl, ht10, hb10⟩; dsimp only; (replace r8 := r8.below hb10); (replace rx := rx.below hb10); (have HT10 := Lib.hid ht10); (replace hb := bt hb hb10); clear ht10 hb10
  refine hK.out _ _ ?g9rs14 (fun hHeld => ?g9rt14)
  case g9rs14 => (try dsimp only); (first | exact ⟨⟨RTC.out.cell 0, RTC.out.cell 1, RTC.out.cell 2⟩, RX.out.cell 0, RX.out.cell 1, RX.out.cell 2⟩ | exact ⟨⟨r8.cell 0, r8.cell 1, r8.cell 2⟩, rx.cell 0, rx.cell 1, rx.cell 2⟩)
  try dsimp only at hHeld
  clear hK K
  try simp only [Act.put, List.setIfInBounds_toArray, List.set_cons_zero, List.set_cons_succ]
  refine Go.Shr.wpAnyF_ready [14] (by kernel_rfl) (by simp) ?_
  refine Go.Shr.AllReadyF.cons 14 (o := { dst := some 125, op := Go.Op.call { callee := Go.Callee.value (Go.Operand.func 23), args := #[Go.Operand.tmp 122, Go.Operand.tmp 123, Go.Operand.tmp 124], argTypes := #[25, 32, 48] }, type := 48, pos := "law.go:110", after := #[{ on := 11, ground := Go.Ground.data }, { on := 12, ground := Go.Ground.data }, { on := 13, ground := Go.Ground.data }, { on := 10, ground := Go.Ground.chain }, { on := 6, ground := Go.Ground.guard }], guard := some (6, true) }) rfl (fun K hK => ?g9ro15) ?g9rm15
  case g9rm15 => exact Go.Shr.AllReadyF.nil
  go_simp; refine (ptree_sw HSW.out qs aS an at' cS cn tcap tt W10 (slb HSC'.out hb) (slb HNC.out hb) (TrAt.below hb _ _ HTTC.out) HOK.out).mono ?_; rintro e W14 ⟨x14, y14, rfl, ht14, hb14⟩; dsimp only; (replace r8 := r8.below hb14); (replace rx := rx.below hb14); (have HT14 := Lib.hid ht14); (replace HT10 := Lib.hid (TrAt.below hb14 _ _ HT10.out)); (replace hb := bt hb hb14); clear ht14 hb14
  refine hK.out _ _ ?g9rs15 (fun hHeld => ?g9rt15)
  case g9rs15 => (try dsimp only); (first | exact ⟨⟨RTC.out.cell 0, RTC.out.cell 1, RTC.out.cell 2⟩, RX.out.cell 0, RX.out.cell 1, RX.out.cell 2⟩ | exact ⟨⟨r8.cell 0, r8.cell 1, r8.cell 2⟩, rx.cell 0, rx.cell 1, rx.cell 2⟩)
  try dsimp only at hHeld
  clear hK K
  try simp only [Act.put, List.setIfInBounds_toArray, List.set_cons_zero, List.set_cons_succ]
  refine Go.Shr.wpAnyF_ready [15] (by kernel_rfl) (by simp) ?_
  refine Go.Shr.AllReadyF.cons 15 (o := { dst := some 126, op := Go.Op.call { callee := Go.Callee.value (Go.Operand.func 22), args := #[Go.Operand.tmp 121, Go.Operand.tmp 125], argTypes := #[48, 48] }, type := 4, pos := "law.go:110", after := #[{ on := 10, ground := Go.Ground.data }, { on := 14, ground := Go.Ground.data }, { on := 14, ground := Go.Ground.chain }, { on := 6, ground := Go.Ground.guard }], guard := some (6, true) }) rfl (fun K hK => ?g9ro16) ?g9rm16
  case g9rm16 => exact Go.Shr.AllReadyF.nil
  go_simp; refine (same_all (_ + 1) _ _ (Nat.lt_succ_self _) x10 x14 y10 y14 W14 HT10.out HT14.out).mono ?_; rintro e W15 ⟨rfl, hb15⟩; rw [HS2.out]; dsimp only; (replace r8 := r8.below hb15); (replace rx := rx.below hb15); (replace hb := bt hb hb15); clear hb15
  refine hK.out _ _ ?g9rs16 (fun hHeld => ?g9rt16)
  case g9rs16 => (try dsimp only); (first | exact ⟨⟨RTC.out.cell 0, RTC.out.cell 1, RTC.out.cell 2⟩, RX.out.cell 0, RX.out.cell 1, RX.out.cell 2⟩ | exact ⟨⟨r8.cell 0, r8.cell 1, r8.cell 2⟩, rx.cell 0, rx.cell 1, rx.cell 2⟩)
  try dsimp only at hHeld
  clear hK K
  try simp only [Act.put, List.setIfInBounds_toArray, List.set_cons_zero, List.set_cons_succ]
  refine Go.Shr.wpAnyF_take 16 (oi := { dst := some 127, op := Go.Op.pick (Go.Operand.tmp 117) (Go.Operand.tmp 126) (Go.Operand.const (Go.Value.bool false)), type := 4, pos := "law.go:110", after := #[{ on := 6, ground := Go.Ground.data }, { on := 15, ground := Go.Ground.data }], guard := none }) (v := ?g9rv17) rfl (by kernel_rfl) (fun _ _ _ h => h) (by assumption) (by rfl) ?g9ry17 ?g9rr17
  case g9ry17 => intro w hSw; obtain ⟨⟨s1, s2, s3⟩, s4, s5, s6⟩ := hSw; go_simp; try with_reducible rfl
  try simp only [Act.put, List.setIfInBounds_toArray, List.set_cons_zero, List.set_cons_succ]
  refine Go.Shr.wpAnyF_take 17 (oi := { dst := some 8, op := Go.Op.assign (Go.Operand.tmp 127), type := 4, pos := "law.go:110", after := #[{ on := 16, ground := Go.Ground.data }, { on := 15, ground := Go.Ground.chain }, { on := 0, ground := Go.Ground.phase }, { on := 1, ground := Go.Ground.phase }, { on := 2, ground := Go.Ground.phase }, { on := 3, ground := Go.Ground.phase }, { on := 4, ground := Go.Ground.phase }, { on := 5, ground := Go.Ground.phase }, { on := 6, ground := Go.Ground.phase }, { on := 7, ground := Go.Ground.phase }, { on := 8, ground := Go.Ground.phase }, { on := 9, ground := Go.Ground.phase }, { on := 10, ground := Go.Ground.phase }, { on := 11, ground := Go.Ground.phase }, { on := 12, ground := Go.Ground.phase }, { on := 13, ground := Go.Ground.phase }, { on := 14, ground := Go.Ground.phase }, { on := 15, ground := Go.Ground.phase }, { on := 16, ground := Go.Ground.phase }], guard := none }) (v := ?g9rv18) rfl (by kernel_rfl) (fun _ _ _ h => h) (by assumption) (by rfl) ?g9ry18 ?g9rr18
  case g9ry18 => intro w hSw; obtain ⟨⟨s1, s2, s3⟩, s4, s5, s6⟩ := hSw; go_simp; try with_reducible rfl
  try simp only [Act.put, List.setIfInBounds_toArray, List.set_cons_zero, List.set_cons_succ]
  refine Go.Shr.wpAnyF_done (by kernel_rfl) ?_
  have HBF := Lib.hid (bt HBB.out (bt HBX10.out (bt HBC.out hb)))
  clear hHeld r8 rx hb
  go_wp2_with fail
  go_ret
  exact ⟨rfl, HBF.out⟩
end Go.Proofs.Ytgpffcgkfgiodaa
