/-
  The walk of ProjectAll.
-/
import Derived.Test.YtgpffcgkfgiodaaLaw7B
import Derived.Test.YtgpffcgkfgiodaaRes7
import Derived.Test.YtgpffcgkfgiodaaSame8
import Derived.Deep.CutRange
set_option linter.unusedSimpArgs false
namespace Go.Proofs.Ytgpffcgkfgiodaa
open Go.RowKit Go.Shr
set_option maxHeartbeats 4000000 in
set_option maxRecDepth 100000 in
theorem law_all (a0 : Option Addr) (n0 c0 : Nat) (z0 : List Int) (a1 : Option Addr) (n1 c1 : Nat) (z1 : List Int) (a2 : Option Addr) (n2 c2 : Nat) (l2 : List ByteArray) (a3 : Option Addr) (n3 c3 : Nat) (z3 : List Int) (w : World)
    (h0 : Sl (fun b => b < w.heap.size) w 1 a0 n0 c0 (ints z0)) (w0 : ∀ z ∈ z0, (Lit.int .i64 z).wf = true) (h1 : Sl (fun b => b < w.heap.size) w 1 a1 n1 c1 (ints z1)) (_ : ∀ z ∈ z1, (Lit.int .i64 z).wf = true)
    (h2 : Sl (fun b => b < w.heap.size) w 1 a2 n2 c2 (strs l2)) (w2 : ∀ s ∈ l2, s.size ≤ maxLen) (h3 : Sl (fun b => b < w.heap.size) w 1 a3 n3 c3 (ints z3)) (w3 : ∀ z ∈ z3, (Lit.int .i64 z).wf = true) :
    Calls Try.prog 6 #[.slice a0 n0 c0, .slice a1 n1 c1, .slice a2 n2 c2, .slice a3 n3 c3] w fun e w' => e = .returned (.bool true) ∧ Below w.heap.size w w' := by
  obtain ⟨it, hit, hz0t, hz1t, hz2t⟩ := info_parts info_s
  have hn1 : z1.length = n1 := by have := h1.len; rw [ints_length] at this; omega
  subst hn1
  have hn2 : l2.length = n2 := by have := h2.len; simp [strs] at this; omega
  subst hn2
  have H0 := Lib.hid h0; have H1 := Lib.hid h1; have W0 := Lib.hid w0; have H2 := Lib.hid h2; have W2 := Lib.hid w2; have H3 := Lib.hid h3; have W3 := Lib.hid w3
  clear h0 h1 w0 h2 w2 h3 w3
  go_enter Try.func6, Try.ntmps6
  go_wp2_with fail
  refine ((known7 w).mono ?_)
  rintro e w1 ⟨rfl, hb1⟩
  have HB1 := Lib.hid hb1
  clear hb1
  by_cases h25 : l2.length ≤ 5
  · have h25b : ¬ ((l2.length : Int) > 5) := by omega
    go_wp2_with fail
    refine ((make5 a0 n0 c0 z0 w1 (slb H0.out HB1.out) W0.out).mono ?_)
    rintro e w2 ⟨aS, cS, rfl, hs, hb2⟩
    have HSW := Lib.hid (make_sw z0)
    have h2 := make_two z0
    have hl14 := (make_len z0).2
    have HS := Lib.hid (hs.sl.mono (ok' := fun b => b < w2.heap.size) (fun k hk _ => hk) (by decide))
    have HB2 := Lib.hid (bt HB1.out hb2)
    clear hs hb2 h25b
    generalize makeL z0 = l at *
    generalize makeSh z0 = sh at *
    have HWY := Lib.hid HSW.out.wy
    have HSC := Lib.hid HSW.out.sch
    go_wp2_with fail
    refine ((make8 aS cS l sh a3 n3 c3 z3 w2 HSC.out HS.out (slb H3.out HB2.out) W3.out).mono ?_)
    rintro e w3 ⟨at', tm, tcap, rfl, ht3, hb3⟩
    have HOK := Lib.hid (ok_make W3.out sh)
    generalize makeT sh z3 = tt at *
    have hta := ht3.at
    obtain rfl := tree_at hta
    have HT := Lib.hid hta
    have HS3 := Lib.hid (slb HS.out hb3)
    have HB3 := Lib.hid (bt HB2.out hb3)
    clear ht3 hta hb3 HS
    go_upto_region 7 with fail
    refine gen_wq (fun wB hwB => ?_)
    have hbB : Below w3.heap.size w3 wB := by rw [hwB]; exact ba (b0 w3) _
    have rT : Rw wB w3.heap.size #[.int .i64 tt.n, .string tt.s, .slice at' tt.kids.length tcap] 48 := by rw [hwB]; exact Rw.new w3 _ _
    clear hwB
    have HSB := Lib.hid (slb HS3.out hbB); have HTB := Lib.hid (TrAt.below hbB _ _ HT.out); have HBB := Lib.hid (bt HB3.out hbB)
    have hTB := hbB.size
    have hTl := rT.lt
    have RT := Lib.hid rT
    generalize w3.heap.size = T at *
    clear hbB rT HS3 HT HB3
    go_wp2_with fail
    refine ((paths_v HWY.out HSC.out.kids h2 aS a1 cS c1 z1 wB HSB.out (slb H1.out HBB.out)).mono ?_)
    rintro e w4 ⟨aA, cA, rfl, hA, hb4⟩
    have HA4 := Lib.hid (hA.sl.mono (ok' := fun b => b < w4.heap.size) (fun k hk _ => hk) (by decide))
    have HSB4 := Lib.hid (slb HSB.out hb4); have HBB4 := Lib.hid (bt HBB.out hb4); have HTB4 := Lib.hid (TrAt.below hb4 _ _ HTB.out)
    have RT4 := Lib.hid (RT.out.below hb4)
    have HPS := Lib.hid (pathsOf_size HWY.out h2 z1)
    have hp4 : (pathsOf l z1).length ≤ 4 := by rw [pathsOf_len]; omega
    clear hA hb4
    go_wp2_with fail
    refine ((paths_v HWY.out HSC.out.kids h2 aS a1 cS c1 z1 w4 HSB4.out (slb H1.out HBB4.out)).mono ?_)
    rintro e w5 ⟨aC, cC, rfl, hC, hb5⟩
    have HA5 := Lib.hid (slb HA4.out hb5)
    have HOC := Lib.hid hC
    have HSB5 := Lib.hid (slb HSB4.out hb5); have HBB5 := Lib.hid (bt HBB4.out hb5); have HTB5 := Lib.hid (TrAt.below hb5 _ _ HTB4.out)
    have RT5 := Lib.hid (RT4.out.below hb5)
    have hz5 := hb5.size
    have HB45 := Lib.hid hb5
    have HR5 := Lib.hid (slb H2.out HBB5.out)
    clear hC hb5
    generalize pathsOf l z1 = ps at *
    have tok1 : True := trivial
    have hTz := RT4.out.lt
    go_upto_region 8 with (first | (at_builtin; have _t := tok1; clear tok1; clear _t; refine wpList_append (B := w4.heap.size) rfl _ _ _ _ rfl it (.string ByteArray.empty) 16 Try.underlying37 hit hz0t hz1t hz2t rfl rfl (HOC.out) _ rfl _ _ (HR5.out.src (P := Try.prog) (tx := 37) Try.underlying37 (strs_one _)) (by simp only [maxLen]; omega) (by omega) (by first | omega | (simp; omega) | simp) ?_; intro a6 cap6 w6 ho6 hc6 hn6); (have HO6 := Lib.hid ho6); (have HC6 := Lib.hid hc6); clear ho6 hc6 hn6)
    have hb6 : Below w4.heap.size w4 w6 := Chg.bt HB45.out HC6.out (fun i hi h => by have := h.2.1; omega)
    refine gen_wq (fun w7 hw7 => ?_)
    have hb7 : Below w6.heap.size w6 w7 := by rw [hw7]; exact ba (b0 w6) _
    have r7 : Rw w7 w6.heap.size #[.slice aA ps.length cA, .slice a2 l2.length c2, .slice a6 (ps.length + l2.length) cap6] 37 := by rw [hw7]; exact Rw.new w6 _ _
    clear hw7
    have hb47 := bt hb6 hb7
    have HBB7 := Lib.hid (bt HBB4.out hb47)
    have HS7 := Lib.hid (slb HSB4.out hb47); have HT7 := Lib.hid (TrAt.below hb47 _ _ HTB4.out); have RT7 := Lib.hid (RT4.out.below hb47)
    have HA7 := slb HA4.out hb47
    have HR7 := slb H2.out HBB7.out
    have HX7 := slb (HO6.out.sl.mono (ok' := fun b => b < w6.heap.size) (fun k hk _ => hk) (by decide)) hb7
    have HROW : Hid (∀ j, j < 3 → ∃ (a : Option Addr) (c : Nat) (qs : List ByteArray), (#[Value.slice aA ps.length cA, .slice a2 l2.length c2, .slice a6 (ps.length + l2.length) cap6])[j]? = some (.slice a qs.length c) ∧ Sl (fun b => b < w7.heap.size) w7 1 a qs.length c (strs qs) ∧ qs.length ≤ 9 ∧ ∀ p ∈ qs, p.size ≤ maxLen) := Lib.hid (by
      intro j hj
      rcases j with _ | _ | _ | j
      · exact ⟨aA, cA, ps, rfl, HA7, by omega, HPS.out⟩
      · exact ⟨a2, c2, l2, rfl, HR7, by omega, W2.out⟩
      · refine ⟨a6, cap6, ps ++ l2, by rw [List.length_append]; rfl, ?_, by rw [List.length_append]; omega, fun p hp => ?_⟩
        · have e : strs (ps ++ l2) = strs ps ++ strs l2 := by simp [strs]
          rw [List.length_append, e]; exact HX7
        · rcases List.mem_append.1 hp with h | h
          · exact HPS.out p h
          · exact W2.out p h
      · omega)
    have R7 := Lib.hid r7
    generalize (#[Value.slice aA ps.length cA, .slice a2 l2.length c2, .slice a6 (ps.length + l2.length) cap6] : Array Value) = row at *
    have hlt7 := r7.lt
    generalize w6.heap.size = B at *
    clear hb6 hb7 hb47 r7 HA7 HR7 HX7 HC6 HO6 HBB4 HBB5 HSB4 HSB5 HTB4 HTB5 RT4 RT5 HA4 HA5 HOC HR5 HB45 HPS HBB HSB HTB RT H1 H2 W2
    go_wp2_with fail
    go_loopw [12] (fun iv wr => ∃ j : Nat, iv = .int .i64 (j : Int) ∧ j ≤ 3 ∧ Hid (Below w7.heap.size w7 wr)) (fun iv _ => 3 - (intOf iv).toNat)
    case atStart => exact ⟨0, rfl, by omega, Lib.hid (b0 w7)⟩
    case round =>
      obtain ⟨j, rfl, hj, HB⟩ := hrel
      have hszr := HB.out.size
      by_cases hlt : j < 3
      · obtain ⟨aq, cq, qs, hcell, hsl, hlen, hsz⟩ := HROW.out j hlt
        have g0 : wr.cell? ⟨B, j, none⟩ = some (.slice aq qs.length cq) := ((R7.out.below HB.out).cell j).trans hcell
        have g0a := cb (ba (b0 wr) (.cells #[] 9)) g0
        have HQ := Lib.hid (slb hsl HB.out)
        have HQSZ := Lib.hid hsz
        have HSRC := Lib.hid ((HQ.out.alloc (.cells #[] 9)).src (P := Try.prog) (tx := 37) Try.underlying37 (strs_one _))
        have HSR := Lib.hid (slb HS7.out HB.out); have HTR := Lib.hid (TrAt.below HB.out _ _ HT7.out); have RTR := Lib.hid (RT7.out.below HB.out)
        have HCELL := Lib.hid hcell
        clear hcell hsl hsz
        go_wp2_with (first
          | (at_builtin; refine wpList_fresh (B := 0) rfl _ _ _ _ rfl it (.string ByteArray.empty) 16 Try.underlying37 hit hz0t hz1t hz2t rfl rfl _ rfl _ _ HSRC.out (by simp only [maxLen]; omega) (by omega) (Nat.zero_le _) ?_; intro a5 cap5 w5 ho5 hb5 hn5; (have HO5 := Lib.hid ho5); (have HB5 := Lib.hid (bt (show Below wr.heap.size wr _ from ba (b0 wr) _) hb5)); clear ho5 hb5 hn5)
          | fail)
        clear g0 g0a
        have HSW5 := Lib.hid (HO5.out.sl.mono (ok' := fun b => b < w5.heap.size) (fun k hk _ => hk) (by decide))
        have hq9 : qs.length ≤ 1000 := by omega
        have g5 : w5.cell? ⟨B, j, none⟩ = some (.slice aq qs.length cq) := (((R7.out.below HB.out).below HB5.out).cell j).trans HCELL.out
        refine (res_p HWY.out HSC.out.kids aS a5 cS cap5 qs w5 hq9 (slb HSR.out HB5.out) HSW5.out HQSZ.out).mono ?_
        rintro e w6 ⟨hb6, hcase⟩
        have HB6 := Lib.hid (bt HB5.out hb6)
        have g6 := cb hb6 g5
        rcases hcase with ⟨hall, ak, ck, ap, cp, rfl, hk6, hp6⟩ | ⟨hna, rfl⟩
        · have HK6 := Lib.hid (hk6.sl.mono (ok' := fun b => b < w6.heap.size) (fun k hk _ => hk) (by decide))
          have HP6 := Lib.hid (hp6.sl.mono (ok' := fun b => b < w6.heap.size) (fun k hk _ => hk) (by decide))
          have HALL := Lib.hid hall
          clear hk6 hp6 hb6 hall g5
          go_wp2_with fail
          refine ((res_r HWY.out HSC.out.kids aS aq cS cq qs w6 hq9 (slb HSR.out HB6.out) (slb HQ.out HB6.out)).mono ?_)
          rintro e w8 ⟨hb8, ⟨_, ak2, ck2, ap2, cp2, rfl, hk8, hp8⟩ | ⟨hna, _⟩⟩
          rotate_left
          · exact absurd HALL.out hna
          have HK8 := Lib.hid (hk8.sl.mono (ok' := fun b => b < w8.heap.size) (fun k hk _ => hk) (by decide))
          have HP8 := Lib.hid (hp8.sl.mono (ok' := fun b => b < w8.heap.size) (fun k hk _ => hk) (by decide))
          have HK68 := Lib.hid (slb HK6.out hb8); have HP68 := Lib.hid (slb HP6.out hb8)
          have HB8 := Lib.hid (bt HB6.out hb8)
          clear hk8 hp8 hb8 HK6 HP6 g6
          go_wp2_with fail
          refine ((bools_v ak ak2 l.length ck ck2 _ _ w8 (fun _ _ => rfl) HK68.out HK8.out).mono ?_)
          rintro e w9 ⟨rfl, hb9⟩
          have HP9 := Lib.hid (slb HP68.out hb9); have HQ9 := Lib.hid (slb HP8.out hb9)
          have HKA := Lib.hid (slb HK68.out hb9); have HKB := Lib.hid (slb HK8.out hb9)
          have HB9 := Lib.hid (bt HB8.out hb9)
          clear hb9 HK68 HK8 HP68 HP8
          go_wp2_with fail
          refine ((same5_v ap ap2 cp cp2 _ w9 HP9.out HQ9.out).mono ?_)
          rintro e w10 ⟨rfl, hb10⟩
          have HKA10 := Lib.hid (slb HKA.out hb10); have HKB10 := Lib.hid (slb HKB.out hb10)
          have HB10 := Lib.hid (bt HB9.out hb10)
          clear hb10 HKA HKB HP9 HQ9
          go_wp2_with fail
          have RT10 := Lib.hid (RTR.out.below HB10.out); have HT10 := Lib.hid (TrAt.below HB10.out _ _ HTR.out); have HS10 := Lib.hid (slb HSR.out HB10.out)
          have HST := Lib.hid (sameT_refl (keptT (fun k => KW qs (wayAt sh k)) 0 sh tt))
          refine Go.Shr.wp_region_F (fun w' => w'.cell? ⟨T, 0, none⟩ = some (.int .i64 tt.n) ∧ w'.cell? ⟨T, 1, none⟩ = some (.string tt.s) ∧ w'.cell? ⟨T, 2, none⟩ = some (.slice at' tt.kids.length tcap)) [] (by kernel_rfl) ?g10rgS (fun hHeld => ?g10rgR)
          case g10rgS => (try dsimp only); (first | exact ⟨RT10.out.cell 0, RT10.out.cell 1, RT10.out.cell 2⟩ | exact ⟨r10.cell 0, r10.cell 1, r10.cell 2⟩)
          try dsimp only at hHeld
          obtain ⟨W, hW⟩ : ∃ W, W = w10.drew := ⟨_, rfl⟩; rw [← hW] at hHeld ⊢; (have r10 := Rw.ren hW RT10.out.drew); (have hb := Go.Shr.Below.ren hW (b0 w10).drew); clear hW
          refine Go.Shr.wpAnyF_take 0 (oi := { dst := some 80, op := Go.Op.move (Go.Operand.tmp 15), type := 33, pos := "law.go:68", after := #[], guard := none }) (v := ?g10rv1) rfl (by kernel_rfl) (fun _ _ _ h => h) (by assumption) (by rfl) ?g10ry1 ?g10rr1
          case g10ry1 => intro w hSw; obtain ⟨s1, s2, s3⟩ := hSw; go_simp; try with_reducible rfl
          try simp only [Act.put, List.setIfInBounds_toArray, List.set_cons_zero, List.set_cons_succ]
          refine Go.Shr.wpAnyF_take 1 (oi := { dst := some 81, op := Go.Op.binOp Go.BinOp.eql 33 (Go.Operand.tmp 80) (Go.Operand.const (Go.Value.int Go.IntKind.i64 0)) 33, type := 4, pos := "law.go:68", after := #[{ on := 0, ground := Go.Ground.data }], guard := none }) (v := ?g10rv2) rfl (by kernel_rfl) (fun _ _ _ h => h) (by assumption) (by rfl) ?g10ry2 ?g10rr2
          case g10ry2 => intro w hSw; obtain ⟨s1, s2, s3⟩ := hSw; go_simp; try with_reducible rfl
          try simp only [Act.put, List.setIfInBounds_toArray, List.set_cons_zero, List.set_cons_succ]
          refine Go.Shr.wpAnyF_take 2 (oi := { dst := some 82, op := Go.Op.move (Go.Operand.tmp 81), type := 4, pos := "law.go:68", after := #[{ on := 1, ground := Go.Ground.data }], guard := none }) (v := ?g10rv3) rfl (by kernel_rfl) (fun _ _ _ h => h) (by assumption) (by rfl) ?g10ry3 ?g10rr3
          case g10ry3 => intro w hSw; obtain ⟨s1, s2, s3⟩ := hSw; go_simp; try with_reducible rfl
          try simp only [Act.put, List.setIfInBounds_toArray, List.set_cons_zero, List.set_cons_succ]
          first
            | refine Go.Shr.wpAnyF_skip 3 (oi := { dst := some 83, op := Go.Op.move (Go.Operand.tmp 9), type := 25, pos := "law.go:68", after := #[{ on := 2, ground := Go.Ground.guard }], guard := some (2, true) }) rfl (by kernel_rfl) (fun _ _ _ h => h) (by assumption) (by rfl) ?_
            | (refine Go.Shr.wpAnyF_take 3 (oi := { dst := some 83, op := Go.Op.move (Go.Operand.tmp 9), type := 25, pos := "law.go:68", after := #[{ on := 2, ground := Go.Ground.guard }], guard := some (2, true) }) (v := ?g10rv4) rfl (by kernel_rfl) (fun _ _ _ h => h) (by assumption) (by rfl) ?g10ry4 ?g10rr4
               case g10ry4 => intro w hSw; obtain ⟨s1, s2, s3⟩ := hSw; go_simp; try with_reducible rfl)
          try simp only [Act.put, List.setIfInBounds_toArray, List.set_cons_zero, List.set_cons_succ]
          first
            | refine Go.Shr.wpAnyF_skip 4 (oi := { dst := some 84, op := Go.Op.move (Go.Operand.tmp 13), type := 32, pos := "law.go:68", after := #[{ on := 2, ground := Go.Ground.guard }], guard := some (2, true) }) rfl (by kernel_rfl) (fun _ _ _ h => h) (by assumption) (by rfl) ?_
            | (refine Go.Shr.wpAnyF_take 4 (oi := { dst := some 84, op := Go.Op.move (Go.Operand.tmp 13), type := 32, pos := "law.go:68", after := #[{ on := 2, ground := Go.Ground.guard }], guard := some (2, true) }) (v := ?g10rv5) rfl (by kernel_rfl) (fun _ _ _ h => h) (by assumption) (by rfl) ?g10ry5 ?g10rr5
               case g10ry5 => intro w hSw; obtain ⟨s1, s2, s3⟩ := hSw; go_simp; try with_reducible rfl)
          try simp only [Act.put, List.setIfInBounds_toArray, List.set_cons_zero, List.set_cons_succ]
          first
            | refine Go.Shr.wpAnyF_skip 5 (oi := { dst := some 85, op := Go.Op.load 48 (Go.Operand.tmp 10), type := 48, pos := "law.go:68", after := #[{ on := 2, ground := Go.Ground.guard }], guard := some (2, true) }) rfl (by kernel_rfl) (fun _ _ _ h => h) (by assumption) (by rfl) ?_
            | (refine Go.Shr.wpAnyF_take 5 (oi := { dst := some 85, op := Go.Op.load 48 (Go.Operand.tmp 10), type := 48, pos := "law.go:68", after := #[{ on := 2, ground := Go.Ground.guard }], guard := some (2, true) }) (v := ?g10rv6) rfl (by kernel_rfl) (fun _ _ _ h => h) (by assumption) (by rfl) ?g10ry6 ?g10rr6
               case g10ry6 => intro w hSw; obtain ⟨s1, s2, s3⟩ := hSw; go_simp; try with_reducible rfl)
          try simp only [Act.put, List.setIfInBounds_toArray, List.set_cons_zero, List.set_cons_succ]
          first
            | refine Go.Shr.wpAnyF_skip 7 (oi := { dst := some 87, op := Go.Op.move (Go.Operand.tmp 9), type := 25, pos := "law.go:68", after := #[{ on := 2, ground := Go.Ground.guard }], guard := some (2, true) }) rfl (by kernel_rfl) (fun _ _ _ h => h) (by assumption) (by rfl) ?_
            | (refine Go.Shr.wpAnyF_take 7 (oi := { dst := some 87, op := Go.Op.move (Go.Operand.tmp 9), type := 25, pos := "law.go:68", after := #[{ on := 2, ground := Go.Ground.guard }], guard := some (2, true) }) (v := ?g10rv7) rfl (by kernel_rfl) (fun _ _ _ h => h) (by assumption) (by rfl) ?g10ry7 ?g10rr7
               case g10ry7 => intro w hSw; obtain ⟨s1, s2, s3⟩ := hSw; go_simp; try with_reducible rfl)
          try simp only [Act.put, List.setIfInBounds_toArray, List.set_cons_zero, List.set_cons_succ]
          first
            | refine Go.Shr.wpAnyF_skip 8 (oi := { dst := some 88, op := Go.Op.move (Go.Operand.tmp 16), type := 32, pos := "law.go:68", after := #[{ on := 2, ground := Go.Ground.guard }], guard := some (2, true) }) rfl (by kernel_rfl) (fun _ _ _ h => h) (by assumption) (by rfl) ?_
            | (refine Go.Shr.wpAnyF_take 8 (oi := { dst := some 88, op := Go.Op.move (Go.Operand.tmp 16), type := 32, pos := "law.go:68", after := #[{ on := 2, ground := Go.Ground.guard }], guard := some (2, true) }) (v := ?g10rv8) rfl (by kernel_rfl) (fun _ _ _ h => h) (by assumption) (by rfl) ?g10ry8 ?g10rr8
               case g10ry8 => intro w hSw; obtain ⟨s1, s2, s3⟩ := hSw; go_simp; try with_reducible rfl)
          try simp only [Act.put, List.setIfInBounds_toArray, List.set_cons_zero, List.set_cons_succ]
          first
            | refine Go.Shr.wpAnyF_skip 9 (oi := { dst := some 89, op := Go.Op.load 48 (Go.Operand.tmp 10), type := 48, pos := "law.go:68", after := #[{ on := 2, ground := Go.Ground.guard }], guard := some (2, true) }) rfl (by kernel_rfl) (fun _ _ _ h => h) (by assumption) (by rfl) ?_
            | (refine Go.Shr.wpAnyF_take 9 (oi := { dst := some 89, op := Go.Op.load 48 (Go.Operand.tmp 10), type := 48, pos := "law.go:68", after := #[{ on := 2, ground := Go.Ground.guard }], guard := some (2, true) }) (v := ?g10rv9) rfl (by kernel_rfl) (fun _ _ _ h => h) (by assumption) (by rfl) ?g10ry9 ?g10rr9
               case g10ry9 => intro w hSw; obtain ⟨s1, s2, s3⟩ := hSw; go_simp; try with_reducible rfl)
          try simp only [Act.put, List.setIfInBounds_toArray, List.set_cons_zero, List.set_cons_succ]
          refine Go.Shr.wpAnyF_ready [6] (by kernel_rfl) (by simp) ?_
          refine Go.Shr.AllReadyF.cons 6 (o := { dst := some 86, op := Go.Op.call { callee := Go.Callee.value (Go.Operand.func 23), args := #[Go.Operand.tmp 83, Go.Operand.tmp 84, Go.Operand.tmp 85], argTypes := #[25, 32, 48] }, type := 48, pos := "law.go:68", after := #[{ on := 3, ground := Go.Ground.data }, { on := 4, ground := Go.Ground.data }, { on := 5, ground := Go.Ground.data }, { on := 2, ground := Go.Ground.chain }, { on := 2, ground := Go.Ground.guard }], guard := some (2, true) }) rfl (fun K hK => ?g10ro10) ?g10rm10
          case g10rm10 => exact Go.Shr.AllReadyF.nil
          go_simp; refine (ptree_v HSC.out _ aS ak at' cS ck tcap tt W (slb HS10.out hb) (slb HKA10.out hb) (TrAt.below hb _ _ HT10.out) HOK.out).mono ?_; rintro e W6 ⟨x6, y6, z6, rfl, ht6, hb6⟩; dsimp only; (replace r10 := r10.below hb6); (have ht6' := ht6.at); (obtain rfl := tree_at ht6'); (have HT6 := Lib.hid ht6'); (replace hb := bt hb hb6); clear ht6 ht6' hb6
          refine hK.out _ _ ?g10rs10 (fun hHeld => ?g10rt10)
          case g10rs10 => (try dsimp only); (first | exact ⟨RT10.out.cell 0, RT10.out.cell 1, RT10.out.cell 2⟩ | exact ⟨r10.cell 0, r10.cell 1, r10.cell 2⟩)
          try dsimp only at hHeld
          clear hK K
          try simp only [Act.put, List.setIfInBounds_toArray, List.set_cons_zero, List.set_cons_succ]
          refine Go.Shr.wpAnyF_ready [10] (by kernel_rfl) (by simp) ?_
          refine Go.Shr.AllReadyF.cons 10 (o := { dst := some 90, op := Go.Op.call { callee := Go.Callee.value (Go.Operand.func 24), args := #[Go.Operand.tmp 87, Go.Operand.tmp 88, Go.Operand.tmp 89], argTypes := #[25, 32, 48] }, type := 48, pos := "law.go:68", after := #[{ on := 7, ground := Go.Ground.data }, { on := 8, ground := Go.Ground.data }, { on := 9, ground := Go.Ground.data }, { on := 6, ground := Go.Ground.chain }, { on := 2, ground := Go.Ground.guard }], guard := some (2, true) }) rfl (fun K hK => ?g10ro11) ?g10rm11
          case g10rm11 => exact Go.Shr.AllReadyF.nil
          go_simp; refine (rtree_v HSC.out _ aS ak2 at' cS ck2 tcap tt W6 (slb HS10.out hb) (slb HKB10.out hb) (TrAt.below hb _ _ HT10.out) HOK.out).mono ?_; rintro e W10 ⟨x10, y10, z10, rfl, ht10, hb10⟩; dsimp only; (replace r10 := r10.below hb10); (have ht10' := ht10.at); (obtain rfl := tree_at ht10'); (have HTX := Lib.hid ht10'); (replace HT6 := Lib.hid (TrAt.below hb10 _ _ HT6.out)); (replace hb := bt hb hb10); clear ht10 ht10' hb10
          refine hK.out _ _ ?g10rs11 (fun hHeld => ?g10rt11)
          case g10rs11 => (try dsimp only); (first | exact ⟨RT10.out.cell 0, RT10.out.cell 1, RT10.out.cell 2⟩ | exact ⟨r10.cell 0, r10.cell 1, r10.cell 2⟩)
          try dsimp only at hHeld
          clear hK K
          try simp only [Act.put, List.setIfInBounds_toArray, List.set_cons_zero, List.set_cons_succ]
          refine Go.Shr.wpAnyF_ready [11] (by kernel_rfl) (by simp) ?_
          refine Go.Shr.AllReadyF.cons 11 (o := { dst := some 91, op := Go.Op.call { callee := Go.Callee.value (Go.Operand.func 22), args := #[Go.Operand.tmp 86, Go.Operand.tmp 90], argTypes := #[48, 48] }, type := 4, pos := "law.go:68", after := #[{ on := 6, ground := Go.Ground.data }, { on := 10, ground := Go.Ground.data }, { on := 10, ground := Go.Ground.chain }, { on := 2, ground := Go.Ground.guard }], guard := some (2, true) }) rfl (fun K hK => ?g10ro12) ?g10rm12
          case g10rm12 => exact Go.Shr.AllReadyF.nil
          go_simp; refine (same_all (_ + 1) _ _ (Nat.lt_succ_self _) x6 x10 z6 z10 W10 HT6.out HTX.out).mono ?_; rintro e W11 ⟨rfl, hb11⟩; rw [HST.out]; dsimp only; (replace r10 := r10.below hb11); (replace hb := bt hb hb11); clear hb11
          refine hK.out _ _ ?g10rs12 (fun hHeld => ?g10rt12)
          case g10rs12 => (try dsimp only); (first | exact ⟨RT10.out.cell 0, RT10.out.cell 1, RT10.out.cell 2⟩ | exact ⟨r10.cell 0, r10.cell 1, r10.cell 2⟩)
          try dsimp only at hHeld
          clear hK K
          try simp only [Act.put, List.setIfInBounds_toArray, List.set_cons_zero, List.set_cons_succ]
          first
            | refine Go.Shr.wpAnyF_skip 12 (oi := { dst := some 92, op := Go.Op.unOp Go.UnOp.not 4 (Go.Operand.tmp 91), type := 4, pos := "law.go:68", after := #[{ on := 11, ground := Go.Ground.data }, { on := 2, ground := Go.Ground.guard }], guard := some (2, true) }) rfl (by kernel_rfl) (fun _ _ _ h => h) (by assumption) (by rfl) ?_
            | (refine Go.Shr.wpAnyF_take 12 (oi := { dst := some 92, op := Go.Op.unOp Go.UnOp.not 4 (Go.Operand.tmp 91), type := 4, pos := "law.go:68", after := #[{ on := 11, ground := Go.Ground.data }, { on := 2, ground := Go.Ground.guard }], guard := some (2, true) }) (v := ?g10rv13) rfl (by kernel_rfl) (fun _ _ _ h => h) (by assumption) (by rfl) ?g10ry13 ?g10rr13
               case g10ry13 => intro w hSw; obtain ⟨s1, s2, s3⟩ := hSw; go_simp; try with_reducible rfl)
          try simp only [Act.put, List.setIfInBounds_toArray, List.set_cons_zero, List.set_cons_succ]
          refine Go.Shr.wpAnyF_take 13 (oi := { dst := some 93, op := Go.Op.pick (Go.Operand.tmp 82) (Go.Operand.tmp 92) (Go.Operand.const (Go.Value.bool false)), type := 4, pos := "law.go:68", after := #[{ on := 2, ground := Go.Ground.data }, { on := 12, ground := Go.Ground.data }], guard := none }) (v := ?g10rv14) rfl (by kernel_rfl) (fun _ _ _ h => h) (by assumption) (by rfl) ?g10ry14 ?g10rr14
          case g10ry14 => intro w hSw; obtain ⟨s1, s2, s3⟩ := hSw; go_simp; try with_reducible rfl
          try simp only [Act.put, List.setIfInBounds_toArray, List.set_cons_zero, List.set_cons_succ]
          refine Go.Shr.wpAnyF_done (by kernel_rfl) ?_
          have HBF := Lib.hid (bt HB.out (bt HB10.out hb))
          clear hHeld r10 hb
          go_wp2_with fail
          go_roundw
          case rel => exact ⟨j + 1, by go_num, by omega, HBF⟩
          case measure => simp [intOf]; omega
        · have HNA := Lib.hid hna
          clear hb6 hna g5
          go_wp2_with fail
          refine ((res_r HWY.out HSC.out.kids aS aq cS cq qs w6 hq9 (slb HSR.out HB6.out) (slb HQ.out HB6.out)).mono ?_)
          rintro e w8 ⟨hb8, ⟨ha, _⟩ | ⟨_, rfl⟩⟩
          · exact absurd ha HNA.out
          have HB8 := Lib.hid (bt HB6.out hb8)
          clear hb8 g6
          go_wp2_with fail
          refine ((bools_v none none 0 0 0 (fun _ => true) (fun _ => true) w8 (fun _ _ => rfl) (Sl.nil _ _ _ _) (Sl.nil _ _ _ _)).mono ?_)
          rintro e w9 ⟨rfl, hb9⟩
          have HB9 := Lib.hid (bt HB8.out hb9)
          clear hb9
          go_wp2_with fail
          refine ((same5_v none none 0 0 [] w9 (Sl.nil _ _ _ _) (Sl.nil _ _ _ _)).mono ?_)
          rintro e w10 ⟨rfl, hb10⟩
          have HB10 := Lib.hid (bt HB9.out hb10)
          clear hb10
          go_wp2_with fail
          refine Go.Shr.wp_region_F (fun _ => True) [] (by kernel_rfl) ?g11rgS (fun hHeld => ?g11rgR)
          case g11rgS => trivial
          try dsimp only at hHeld
          refine Go.Shr.wpAnyF_take 0 (oi := { dst := some 80, op := Go.Op.move (Go.Operand.tmp 15), type := 33, pos := "law.go:68", after := #[], guard := none }) (v := ?g11rv1) rfl (by kernel_rfl) (fun _ _ _ h => h) (by assumption) (by rfl) ?g11ry1 ?g11rr1
          case g11ry1 => intro w hSw; skip; go_simp; try with_reducible rfl
          try simp only [Act.put, List.setIfInBounds_toArray, List.set_cons_zero, List.set_cons_succ]
          refine Go.Shr.wpAnyF_take 1 (oi := { dst := some 81, op := Go.Op.binOp Go.BinOp.eql 33 (Go.Operand.tmp 80) (Go.Operand.const (Go.Value.int Go.IntKind.i64 0)) 33, type := 4, pos := "law.go:68", after := #[{ on := 0, ground := Go.Ground.data }], guard := none }) (v := ?g11rv2) rfl (by kernel_rfl) (fun _ _ _ h => h) (by assumption) (by rfl) ?g11ry2 ?g11rr2
          case g11ry2 => intro w hSw; skip; go_simp; try with_reducible rfl
          try simp only [Act.put, List.setIfInBounds_toArray, List.set_cons_zero, List.set_cons_succ]
          refine Go.Shr.wpAnyF_take 2 (oi := { dst := some 82, op := Go.Op.move (Go.Operand.tmp 81), type := 4, pos := "law.go:68", after := #[{ on := 1, ground := Go.Ground.data }], guard := none }) (v := ?g11rv3) rfl (by kernel_rfl) (fun _ _ _ h => h) (by assumption) (by rfl) ?g11ry3 ?g11rr3
          case g11ry3 => intro w hSw; skip; go_simp; try with_reducible rfl
          try simp only [Act.put, List.setIfInBounds_toArray, List.set_cons_zero, List.set_cons_succ]
          first
            | refine Go.Shr.wpAnyF_skip 3 (oi := { dst := some 83, op := Go.Op.move (Go.Operand.tmp 9), type := 25, pos := "law.go:68", after := #[{ on := 2, ground := Go.Ground.guard }], guard := some (2, true) }) rfl (by kernel_rfl) (fun _ _ _ h => h) (by assumption) (by rfl) ?_
            | (refine Go.Shr.wpAnyF_take 3 (oi := { dst := some 83, op := Go.Op.move (Go.Operand.tmp 9), type := 25, pos := "law.go:68", after := #[{ on := 2, ground := Go.Ground.guard }], guard := some (2, true) }) (v := ?g11rv4) rfl (by kernel_rfl) (fun _ _ _ h => h) (by assumption) (by rfl) ?g11ry4 ?g11rr4
               case g11ry4 => intro w hSw; skip; go_simp; try with_reducible rfl)
          try simp only [Act.put, List.setIfInBounds_toArray, List.set_cons_zero, List.set_cons_succ]
          first
            | refine Go.Shr.wpAnyF_skip 4 (oi := { dst := some 84, op := Go.Op.move (Go.Operand.tmp 13), type := 32, pos := "law.go:68", after := #[{ on := 2, ground := Go.Ground.guard }], guard := some (2, true) }) rfl (by kernel_rfl) (fun _ _ _ h => h) (by assumption) (by rfl) ?_
            | (refine Go.Shr.wpAnyF_take 4 (oi := { dst := some 84, op := Go.Op.move (Go.Operand.tmp 13), type := 32, pos := "law.go:68", after := #[{ on := 2, ground := Go.Ground.guard }], guard := some (2, true) }) (v := ?g11rv5) rfl (by kernel_rfl) (fun _ _ _ h => h) (by assumption) (by rfl) ?g11ry5 ?g11rr5
               case g11ry5 => intro w hSw; skip; go_simp; try with_reducible rfl)
          try simp only [Act.put, List.setIfInBounds_toArray, List.set_cons_zero, List.set_cons_succ]
          first
            | refine Go.Shr.wpAnyF_skip 5 (oi := { dst := some 85, op := Go.Op.load 48 (Go.Operand.tmp 10), type := 48, pos := "law.go:68", after := #[{ on := 2, ground := Go.Ground.guard }], guard := some (2, true) }) rfl (by kernel_rfl) (fun _ _ _ h => h) (by assumption) (by rfl) ?_
            | (refine Go.Shr.wpAnyF_take 5 (oi := { dst := some 85, op := Go.Op.load 48 (Go.Operand.tmp 10), type := 48, pos := "law.go:68", after := #[{ on := 2, ground := Go.Ground.guard }], guard := some (2, true) }) (v := ?g11rv6) rfl (by kernel_rfl) (fun _ _ _ h => h) (by assumption) (by rfl) ?g11ry6 ?g11rr6
               case g11ry6 => intro w hSw; skip; go_simp; try with_reducible rfl)
          try simp only [Act.put, List.setIfInBounds_toArray, List.set_cons_zero, List.set_cons_succ]
          first
            | refine Go.Shr.wpAnyF_skip 7 (oi := { dst := some 87, op := Go.Op.move (Go.Operand.tmp 9), type := 25, pos := "law.go:68", after := #[{ on := 2, ground := Go.Ground.guard }], guard := some (2, true) }) rfl (by kernel_rfl) (fun _ _ _ h => h) (by assumption) (by rfl) ?_
            | (refine Go.Shr.wpAnyF_take 7 (oi := { dst := some 87, op := Go.Op.move (Go.Operand.tmp 9), type := 25, pos := "law.go:68", after := #[{ on := 2, ground := Go.Ground.guard }], guard := some (2, true) }) (v := ?g11rv7) rfl (by kernel_rfl) (fun _ _ _ h => h) (by assumption) (by rfl) ?g11ry7 ?g11rr7
               case g11ry7 => intro w hSw; skip; go_simp; try with_reducible rfl)
          try simp only [Act.put, List.setIfInBounds_toArray, List.set_cons_zero, List.set_cons_succ]
          first
            | refine Go.Shr.wpAnyF_skip 8 (oi := { dst := some 88, op := Go.Op.move (Go.Operand.tmp 16), type := 32, pos := "law.go:68", after := #[{ on := 2, ground := Go.Ground.guard }], guard := some (2, true) }) rfl (by kernel_rfl) (fun _ _ _ h => h) (by assumption) (by rfl) ?_
            | (refine Go.Shr.wpAnyF_take 8 (oi := { dst := some 88, op := Go.Op.move (Go.Operand.tmp 16), type := 32, pos := "law.go:68", after := #[{ on := 2, ground := Go.Ground.guard }], guard := some (2, true) }) (v := ?g11rv8) rfl (by kernel_rfl) (fun _ _ _ h => h) (by assumption) (by rfl) ?g11ry8 ?g11rr8
               case g11ry8 => intro w hSw; skip; go_simp; try with_reducible rfl)
          try simp only [Act.put, List.setIfInBounds_toArray, List.set_cons_zero, List.set_cons_succ]
          first
            | refine Go.Shr.wpAnyF_skip 9 (oi := { dst := some 89, op := Go.Op.load 48 (Go.Operand.tmp 10), type := 48, pos := "law.go:68", after := #[{ on := 2, ground := Go.Ground.guard }], guard := some (2, true) }) rfl (by kernel_rfl) (fun _ _ _ h => h) (by assumption) (by rfl) ?_
            | (refine Go.Shr.wpAnyF_take 9 (oi := { dst := some 89, op := Go.Op.load 48 (Go.Operand.tmp 10), type := 48, pos := "law.go:68", after := #[{ on := 2, ground := Go.Ground.guard }], guard := some (2, true) }) (v := ?g11rv9) rfl (by kernel_rfl) (fun _ _ _ h => h) (by assumption) (by rfl) ?g11ry9 ?g11rr9
               case g11ry9 => intro w hSw; skip; go_simp; try with_reducible rfl)
          try simp only [Act.put, List.setIfInBounds_toArray, List.set_cons_zero, List.set_cons_succ]
          refine Go.Shr.wpAnyF_ready [6] (by kernel_rfl) (by simp) ?_
          refine Go.Shr.AllReadyF.cons 6 (o := { dst := some 86, op := Go.Op.call { callee := Go.Callee.value (Go.Operand.func 23), args := #[Go.Operand.tmp 83, Go.Operand.tmp 84, Go.Operand.tmp 85], argTypes := #[25, 32, 48] }, type := 48, pos := "law.go:68", after := #[{ on := 3, ground := Go.Ground.data }, { on := 4, ground := Go.Ground.data }, { on := 5, ground := Go.Ground.data }, { on := 2, ground := Go.Ground.chain }, { on := 2, ground := Go.Ground.guard }], guard := some (2, true) }) rfl (fun K hK => ?g11ro10) ?g11rm10
          case g11rm10 => exact Go.Shr.AllReadyF.nil
          go_simp
          refine hK.out _ _ ?g11rs10 (fun hHeld => ?g11rt10)
          case g11rs10 => trivial
          try dsimp only at hHeld
          clear hK K
          try simp only [Act.put, List.setIfInBounds_toArray, List.set_cons_zero, List.set_cons_succ]
          refine Go.Shr.wpAnyF_ready [10] (by kernel_rfl) (by simp) ?_
          refine Go.Shr.AllReadyF.cons 10 (o := { dst := some 90, op := Go.Op.call { callee := Go.Callee.value (Go.Operand.func 24), args := #[Go.Operand.tmp 87, Go.Operand.tmp 88, Go.Operand.tmp 89], argTypes := #[25, 32, 48] }, type := 48, pos := "law.go:68", after := #[{ on := 7, ground := Go.Ground.data }, { on := 8, ground := Go.Ground.data }, { on := 9, ground := Go.Ground.data }, { on := 6, ground := Go.Ground.chain }, { on := 2, ground := Go.Ground.guard }], guard := some (2, true) }) rfl (fun K hK => ?g11ro11) ?g11rm11
          case g11rm11 => exact Go.Shr.AllReadyF.nil
          go_simp
          refine hK.out _ _ ?g11rs11 (fun hHeld => ?g11rt11)
          case g11rs11 => trivial
          try dsimp only at hHeld
          clear hK K
          try simp only [Act.put, List.setIfInBounds_toArray, List.set_cons_zero, List.set_cons_succ]
          refine Go.Shr.wpAnyF_ready [11] (by kernel_rfl) (by simp) ?_
          refine Go.Shr.AllReadyF.cons 11 (o := { dst := some 91, op := Go.Op.call { callee := Go.Callee.value (Go.Operand.func 22), args := #[Go.Operand.tmp 86, Go.Operand.tmp 90], argTypes := #[48, 48] }, type := 4, pos := "law.go:68", after := #[{ on := 6, ground := Go.Ground.data }, { on := 10, ground := Go.Ground.data }, { on := 10, ground := Go.Ground.chain }, { on := 2, ground := Go.Ground.guard }], guard := some (2, true) }) rfl (fun K hK => ?g11ro12) ?g11rm12
          case g11rm12 => exact Go.Shr.AllReadyF.nil
          go_simp
          refine hK.out _ _ ?g11rs12 (fun hHeld => ?g11rt12)
          case g11rs12 => trivial
          try dsimp only at hHeld
          clear hK K
          try simp only [Act.put, List.setIfInBounds_toArray, List.set_cons_zero, List.set_cons_succ]
          first
            | refine Go.Shr.wpAnyF_skip 12 (oi := { dst := some 92, op := Go.Op.unOp Go.UnOp.not 4 (Go.Operand.tmp 91), type := 4, pos := "law.go:68", after := #[{ on := 11, ground := Go.Ground.data }, { on := 2, ground := Go.Ground.guard }], guard := some (2, true) }) rfl (by kernel_rfl) (fun _ _ _ h => h) (by assumption) (by rfl) ?_
            | (refine Go.Shr.wpAnyF_take 12 (oi := { dst := some 92, op := Go.Op.unOp Go.UnOp.not 4 (Go.Operand.tmp 91), type := 4, pos := "law.go:68", after := #[{ on := 11, ground := Go.Ground.data }, { on := 2, ground := Go.Ground.guard }], guard := some (2, true) }) (v := ?g11rv13) rfl (by kernel_rfl) (fun _ _ _ h => h) (by assumption) (by rfl) ?g11ry13 ?g11rr13
               case g11ry13 => intro w hSw; skip; go_simp; try with_reducible rfl)
          try simp only [Act.put, List.setIfInBounds_toArray, List.set_cons_zero, List.set_cons_succ]
          refine Go.Shr.wpAnyF_take 13 (oi := { dst := some 93, op := Go.Op.pick (Go.Operand.tmp 82) (Go.Operand.tmp 92) (Go.Operand.const (Go.Value.bool false)), type := 4, pos := "law.go:68", after := #[{ on := 2, ground := Go.Ground.data }, { on := 12, ground := Go.Ground.data }], guard := none }) (v := ?g11rv14) rfl (by kernel_rfl) (fun _ _ _ h => h) (by assumption) (by rfl) ?g11ry14 ?g11rr14
          case g11ry14 => intro w hSw; skip; go_simp; try with_reducible rfl
          try simp only [Act.put, List.setIfInBounds_toArray, List.set_cons_zero, List.set_cons_succ]
          refine Go.Shr.wpAnyF_done (by kernel_rfl) ?_
          have HBF := Lib.hid (bt HB.out (Go.Shr.Below.ren rfl HB10.out.drew))
          clear hHeld
          go_wp2_with fail
          go_roundw
          case rel => exact ⟨j + 1, by go_num, by omega, HBF⟩
          case measure => simp [intOf]; omega
      · obtain rfl : j = 3 := by omega
        go_wp2_with fail
        go_ret
        exact ⟨rfl, bt HBB7.out HB.out⟩
  · have h25b : (l2.length : Int) > 5 := by omega
    go_wp2_with fail
    go_ret
    exact ⟨rfl, HB1.out⟩
end Go.Proofs.Ytgpffcgkfgiodaa
