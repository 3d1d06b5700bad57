/-
  The walk of ProjectOne.
-/
import Derived.Test.YtgpffcgkfgiodaaOne7P
import Derived.Deep.CutRange
import Derived.IntWalk
set_option linter.unusedSimpArgs false
namespace Go.Proofs.Ytgpffcgkfgiodaa
open Go.RowKit Go.Shr
set_option maxHeartbeats 1000000 in
set_option maxRecDepth 100000 in
theorem law_one (a0 : Option Addr) (n0 c0 : Nat) (z0 : List Int) (which : Int) (w : World) (h0 : Sl (fun b => b < w.heap.size) w 1 a0 n0 c0 (ints z0)) (w0 : ∀ z ∈ z0, (Lit.int .i64 z).wf = true) (_ : (Lit.int .i64 which).wf = true) :
    Calls Try.prog 3 #[.slice a0 n0 c0, .int .i64 which] w fun e w' => e = .returned (.bool true) ∧ Below w.heap.size w w' := by
  have H0 := Lib.hid h0; have W0 := Lib.hid w0
  clear h0 w0
  go_enter Try.func3, Try.ntmps3
  go_wp2_with fail
  refine ((known7 w).mono ?_)
  rintro e w1 ⟨rfl, hb1⟩
  have HB1 := Lib.hid hb1
  clear hb1
  go_wp2_with fail
  refine ((make5 a0 n0 c0 z0 w1 (slb H0.out HB1.out) W0.out).mono ?_)
  rintro e w2 ⟨aS, cS, rfl, hs, hb2⟩
  have HWY := Lib.hid (make_wy z0)
  have HSC := Lib.hid (make_sch z0)
  have h2 := make_two z0
  have hl14 := (make_len z0).2
  have HS := Lib.hid (hs.sl.mono (ok' := fun b => b < w2.heap.size) (fun k hk _ => hk) (by decide))
  have HB2 := Lib.hid (bt HB1.out hb2)
  clear hs hb2
  generalize makeL z0 = l at *
  generalize wayAt (makeSh z0) = W at *
  generalize makeSh z0 = sh at *
  have hlp := HSC.out.leafs_pos
  have hll : (leafs l l.length).length ≤ l.length := leafs_le
  go_wp2_with fail
  refine ((leaves_v aS cS l w2 HS.out (by omega) HSC.out.kids).mono ?_)
  rintro e w3 ⟨aL, cL, rfl, hL, hb3⟩
  have HB3 := Lib.hid (bt HB2.out hb3)
  have HS3 := Lib.hid (slb HS.out hb3)
  obtain ⟨lb, rfl, _, _, hlc, _⟩ := hL.pos hlp
  have HLC := Lib.hid hlc
  clear hL hb3 hlc
  go_wp2_with fail
  refine ((within_7 which _ w3 (by omega) (by omega)).mono ?_)
  rintro e w4 ⟨rfl, rfl⟩
  have hq1 := Int.emod_nonneg which (show ((leafs l l.length).length : Int) ≠ 0 by omega)
  have hq2 := Int.emod_lt_of_pos which (show (0 : Int) < ((leafs l l.length).length : Int) by omega)
  obtain ⟨q, hq⟩ : ∃ q : Nat, which % ((leafs l l.length).length : Int) = (q : Int) := ⟨(which % ((leafs l l.length).length : Int)).toNat, by omega⟩
  rw [hq] at hq1 hq2 ⊢
  have hql : q < (leafs l l.length).length := by omega
  have cf := HLC.out _ _ (lvs_get l _ q hql).1
  have hfm := leafs_mem.1 (List.getElem_mem hql)
  obtain ⟨hfl, hfk⟩ := hfm
  have HFK := Lib.hid hfk
  generalize (leafs l l.length)[q] = f at *
  have hfp : 0 < f := by
    rcases Nat.eq_zero_or_pos f with e | e
    · rw [e] at hfk; exact absurd HSC.out.root_kind hfk
    · exact e
  clear hq hfk
  have HKO : Hid (∀ i, i < l.length → KW [ownS l f] (W i) = decide (i ∈ Go.Shr.chain (par l) f)) := Lib.hid (fun i hi => by
    rw [HWY.out.KW_one hfp hfl hi, Bool.eq_iff_iff, Bool.or_eq_true, decide_eq_true_eq, decide_eq_true_eq]
    constructor
    · rintro (h | h)
      · rw [← HSC.out.leaf_chain hi HFK.out h]; exact chain_self _ _
      · exact h
    · exact fun h => .inr h)
  have HONE := Lib.hid (one_kept HSC.out hfl HFK.out)
  have HAL := Lib.hid (Wy.isA_own hfp hfl)
  have HOZ := Lib.hid (HWY.out.own_size f hfp hfl)
  go_wp2_with fail
  refine ((rpath_v aS cS l f w3 HS3.out (by omega) HSC.out.kids HWY.out.name_size hfp hfl).mono ?_)
  rintro e w4 ⟨rfl, hb4⟩
  have HB4 := Lib.hid (bt HB3.out hb4)
  have HS4 := Lib.hid (slb HS3.out hb4)
  clear hb4 cf
  have hfe : Hid (keptL (fun k => KW [ownS l f] (W k)) l = keptL (fun i => decide (i ∈ Go.Shr.chain (par l) f)) l) := Lib.hid (keptL_congr HKO.out)
  have hbe : Hid (bls (fun k => KW [ownS l f] (W k)) l.length = bls (fun i => decide (i ∈ Go.Shr.chain (par l) f)) l.length) := Lib.hid (bls_congr HKO.out)
  generalize ownS l f = o at *
  go_wp2_with fail
  refine cgen (fun w5 hw5 => ?_)
  have hb5 : Below w4.heap.size w4 w5 := by rw [hw5]; exact ba (b0 w4) _
  have r5 : Rw w5 w4.heap.size #[.string o] 9 := by rw [hw5]; exact Rw.new w4 _ _
  clear hw5
  have HP5 : Hid (Sl (fun b => b < w5.heap.size) w5 1 (some ⟨w4.heap.size, 0, none⟩) 1 1 (strs [o])) := Lib.hid (Rw.sl' r5 1 1 rfl (by decide))
  have HB5 := Lib.hid (bt HB4.out hb5)
  have HS5 := Lib.hid (slb HS4.out hb5)
  clear hb5 r5
  refine ((res_p HWY.out HSC.out.kids aS (some ⟨w4.heap.size, 0, none⟩) cS 1 [o] w5 (by simp) HS5.out HP5.out (by intro p hp; rw [List.mem_singleton.1 hp]; exact Nat.le_trans HOZ.out (by decide))).mono ?_)
  rintro e w6 ⟨hb6, ⟨_, ak, ck, ap, cp, rfl, hk6, hp6⟩ | ⟨hna, _⟩⟩
  rotate_left
  · exact absurd HAL.out hna
  rw [hfe.out] at hp6 ⊢
  rw [hbe.out] at hk6
  have HK6 := Lib.hid (hk6.sl.mono (ok' := fun b => b < w6.heap.size) (fun k hk _ => hk) (by decide))
  have HP6 := Lib.hid (hp6.sl.mono (ok' := fun b => b < w6.heap.size) (fun k hk _ => hk) (by decide))
  have HB6 := Lib.hid (bt HB5.out hb6)
  have HS6 := Lib.hid (slb HS5.out hb6)
  clear hk6 hp6 hb6 hfe hbe HKO
  have HR1 : Hid (rank (fun i => decide (i ∈ Go.Shr.chain (par l) f)) l.length = (Go.Shr.chain (par l) f).length) := Lib.hid HONE.out.1
  have HLN : Hid ((keptL (fun i => decide (i ∈ Go.Shr.chain (par l) f)) l).length = (Go.Shr.chain (par l) f).length) := Lib.hid (by rw [keptL_len]; exact HR1.out)
  have HL1 := Lib.hid HONE.out.2.1
  have HLA := Lib.hid HONE.out.2.2
  have hcl : (Go.Shr.chain (par l) f).length ≤ f + 1 := chain_len _ _
  have hcp : 0 < (Go.Shr.chain (par l) f).length := List.length_pos_of_mem (chain_self _ _)
  have HKD : Hid (∀ x ∈ keptL (fun i => decide (i ∈ Go.Shr.chain (par l) f)) l, x.kids ≤ 1000) := Lib.hid (fun x hx => by
    obtain ⟨a, _, rfl⟩ := List.mem_map.1 hx
    have : cnt (fun i => decide (i ∈ Go.Shr.chain (par l) f)) (par l) l.length a ≤ l.length := cnt_le
    dsimp only; omega)
  generalize keptL (fun i => decide (i ∈ Go.Shr.chain (par l) f)) l = l' at *
  have hl' : l'.length ≤ 20 := by rw [HLN.out]; omega
  have hlp' : 0 < l'.length := by rw [HLN.out]; exact hcp
  clear HONE
  go_wp2_with fail
  refine ((refpar_v aS l.length cS l w6 HS6.out (by omega) HSC.out.kids).mono ?_)
  rintro e w7 ⟨aP, cP, rfl, hp7, hb7⟩
  have HP7 := Lib.hid (hp7.own.sl.mono (ok' := fun b => b < w7.heap.size) (fun k hk _ => hk) (by decide))
  have HB7 := Lib.hid (bt HB6.out hb7)
  have HK7 := Lib.hid (slb HK6.out hb7)
  have HQ7 := Lib.hid (slb HP6.out hb7)
  have HS7 := Lib.hid (slb HS6.out hb7)
  have HPL := Lib.hid (par_length l)
  clear hp7 hb7
  obtain ⟨pb, po, rfl, hpb, hpc⟩ := HP7.out.pos (by omega)
  obtain ⟨kb, ko, rfl, hkb, hkc⟩ := HK7.out.pos (by omega)
  have HPC := Lib.hid hpc; have HKC := Lib.hid hkc
  clear hpc hkc
  go_wp2_with fail
  go_loop [12, 13] (fun nv zv => ∃ (n : Nat) (z : Int), nv = .int .i64 (n : Int) ∧ zv = .int .i64 z ∧ n ≤ 20 ∧ -1 ≤ z ∧ z < (l.length : Int) ∧ Hid (n + (chainI (par l) z).length = (Go.Shr.chain (par l) f).length) ∧ Hid (∀ x ∈ chainI (par l) z, x ∈ Go.Shr.chain (par l) f)) (fun _ zv => (intOf zv + 1).toNat)
  case atStart => exact ⟨0, _, rfl, rfl, by omega, by omega, by omega, Lib.hid (by rw [chainI_nat]; omega), Lib.hid (by rw [chainI_nat]; exact fun x hx => hx)⟩
  case round =>
    obtain ⟨n, z, rfl, rfl, hn, hz1, hz2, HX, HM⟩ := hrel
    by_cases hz : z < 0
    · have hne : n = (Go.Shr.chain (par l) f).length := by
        have := HX.out
        rw [chainI_neg _ hz] at this
        simpa using this
      have HNE := Lib.hid hne
      clear HX hne HM
      go_wp2_with fail
      go_loop [14, 15] (fun av iv => ∃ (i : Nat), av = .int .i64 (rank (fun i => decide (i ∈ Go.Shr.chain (par l) f)) i : Int) ∧ iv = .int .i64 (i : Int) ∧ i ≤ l.length) (fun _ iv => l.length - (intOf iv).toNat)
      case atStart => exact ⟨0, rfl, rfl, Nat.zero_le _⟩
      case round =>
        obtain ⟨i, rfl, rfl, hi⟩ := hrel
        have hri : rank (fun i => decide (i ∈ Go.Shr.chain (par l) f)) i ≤ i := rank_le
        by_cases hil : i < l.length
        · have kc := HKC.out _ _ (bls_get (fun i => decide (i ∈ Go.Shr.chain (par l) f)) hil)
          have HRY := Lib.hid (fun h => rank_yes (f := fun i => decide (i ∈ Go.Shr.chain (par l) f)) (m := i) h)
          have HRN := Lib.hid (fun h => rank_no (f := fun i => decide (i ∈ Go.Shr.chain (par l) f)) (m := i) h)
          cases hkv : decide (i ∈ Go.Shr.chain (par l) f)
          · rw [hkv] at kc
            have HKV := Lib.hid hkv
            clear hkv
            go_wp2_with fail
            go_round
            case rel => exact ⟨i + 1, by rw [HRN.out HKV.out], by go_num, by omega⟩
            case measure => simp [intOf]; omega
          · rw [hkv] at kc
            have HKV := Lib.hid hkv
            clear hkv
            go_wp2_with fail
            go_round
            case rel => exact ⟨i + 1, by rw [HRY.out HKV.out]; go_num, by go_num, by omega⟩
            case measure => simp [intOf]; omega
        · obtain rfl : i = l.length := by omega
          clear hil
          rw [HR1.out, HNE.out, ← HLN.out]
          obtain ⟨qb, qo, rfl, hqb, hqc⟩ := HQ7.out.pos (by omega)
          obtain ⟨sb, so, rfl, hsb, hsc⟩ := HS7.out.pos (by omega)
          obtain ⟨cc, hcc⟩ := HLA.out
          obtain ⟨hli, hle⟩ := List.getElem?_eq_some_iff.1 hcc
          have e1 := (fls_get l' (l'.length - 1) hli).2.2.1
          rw [hle] at e1
          dsimp only at e1
          have e2 := (fls_get l f hfl).2.2.1
          rw [← flN_eq hfl] at e2
          have p2 := hqc _ _ e1
          have s2 := hsc _ _ e2
          rw [← Nat.add_assoc] at p2 s2
          generalize (flN l f).kind = kd at *
          have HPS := Lib.hid (And.intro p2 s2)
          clear e1 e2 p2 s2 hle hcc hqc hsc
          have HKQ := HKD
          have hw1 : IntKind.i64.wrap ((l'.length : Int) - 1) = (l'.length : Int) - 1 := IntWalk.i64_in _ ⟨by omega, by omega⟩
          have hw2 : (0 : Int) ≤ (l'.length : Int) - 1 := by omega
          have hw3 : ((l'.length : Int) - 1).toNat = l'.length - 1 := by omega
          have hw4 : (l'.length : Int) - 1 < (l'.length : Int) := by omega
          have hw6 : (1 : Int) ≤ (l'.length : Int) := by omega
          have HB := b0 w7
          go_wp2_with fail
          refine Go.Shr.wp_region_F (fun w' => w'.cell? ⟨qb, qo + (l'.length - 1) * 4 + 2, none⟩ = some (.int .i64 kd) ∧ w'.cell? ⟨sb, so + f * 4 + 2, none⟩ = some (.int .i64 kd)) [30] (by kernel_rfl) ?g1rgS (fun hHeld => ?g1rgR)
          case g1rgS => (try dsimp only); (first | exact ⟨cb HB HPS.out.1, cb HB HPS.out.2⟩ | exact ⟨cb HB.drew HPS.out.1, cb HB.drew HPS.out.2⟩)
          try dsimp only at hHeld
          obtain ⟨X, hX⟩ : ∃ X, X = w7.drew := ⟨_, rfl⟩; rw [← hX] at hHeld ⊢; (replace HB := Go.Shr.Below.ren hX HB.drew); clear hX
          refine Go.Shr.wpAnyF_take 0 (oi := { dst := some 77, op := Go.Op.move (Go.Operand.tmp 14), type := 3, pos := "more.go:40", after := #[], guard := none }) (v := ?g1rv1) rfl (by kernel_rfl) (fun _ _ _ h => h) (by assumption) (by rfl) ?g1ry1 ?g1rr1
          case g1ry1 => intro w hSw; obtain ⟨s1, s2⟩ := hSw; go_simp; try with_reducible rfl
          try simp only [Act.put, List.setIfInBounds_toArray, List.set_cons_zero, List.set_cons_succ]
          refine Go.Shr.wpAnyF_take 1 (oi := { dst := some 78, op := Go.Op.move (Go.Operand.tmp 12), type := 3, pos := "more.go:40", after := #[], guard := none }) (v := ?g1rv2) rfl (by kernel_rfl) (fun _ _ _ h => h) (by assumption) (by rfl) ?g1ry2 ?g1rr2
          case g1ry2 => intro w hSw; obtain ⟨s1, s2⟩ := hSw; go_simp; try with_reducible rfl
          try simp only [Act.put, List.setIfInBounds_toArray, List.set_cons_zero, List.set_cons_succ]
          refine Go.Shr.wpAnyF_take 2 (oi := { dst := some 79, op := Go.Op.binOp Go.BinOp.eql 3 (Go.Operand.tmp 77) (Go.Operand.tmp 78) 3, type := 4, pos := "more.go:40", after := #[{ on := 0, ground := Go.Ground.data }, { on := 1, ground := Go.Ground.data }], guard := none }) (v := ?g1rv3) rfl (by kernel_rfl) (fun _ _ _ h => h) (by assumption) (by rfl) ?g1ry3 ?g1rr3
          case g1ry3 => intro w hSw; obtain ⟨s1, s2⟩ := hSw; go_simp; (try simp only [beq_self_eq_true]); (try with_reducible rfl)
          try simp only [Act.put, List.setIfInBounds_toArray, List.set_cons_zero, List.set_cons_succ]
          refine Go.Shr.wpAnyF_take 3 (oi := { dst := some 80, op := Go.Op.move (Go.Operand.tmp 79), type := 4, pos := "more.go:40", after := #[{ on := 2, ground := Go.Ground.data }], guard := none }) (v := ?g1rv4) rfl (by kernel_rfl) (fun _ _ _ h => h) (by assumption) (by rfl) ?g1ry4 ?g1rr4
          case g1ry4 => intro w hSw; obtain ⟨s1, s2⟩ := hSw; go_simp; try with_reducible rfl
          try simp only [Act.put, List.setIfInBounds_toArray, List.set_cons_zero, List.set_cons_succ]
          first
            | refine Go.Shr.wpAnyF_skip 4 (oi := { dst := some 81, op := Go.Op.move (Go.Operand.tmp 9), type := 25, pos := "more.go:40", after := #[{ on := 3, ground := Go.Ground.guard }], guard := some (3, true) }) rfl (by kernel_rfl) (fun _ _ _ h => h) (by assumption) (by rfl) ?_
            | (refine Go.Shr.wpAnyF_take 4 (oi := { dst := some 81, op := Go.Op.move (Go.Operand.tmp 9), type := 25, pos := "more.go:40", after := #[{ on := 3, ground := Go.Ground.guard }], guard := some (3, true) }) (v := ?g1rv5) rfl (by kernel_rfl) (fun _ _ _ h => h) (by assumption) (by rfl) ?g1ry5 ?g1rr5
               case g1ry5 => intro w hSw; obtain ⟨s1, s2⟩ := hSw; go_simp; try with_reducible rfl)
          try simp only [Act.put, List.setIfInBounds_toArray, List.set_cons_zero, List.set_cons_succ]
          first
            | refine Go.Shr.wpAnyF_skip 5 (oi := { dst := some 82, op := Go.Op.call { callee := Go.Callee.builtin Go.Builtin.len, args := #[Go.Operand.tmp 81], argTypes := #[25] }, type := 3, pos := "more.go:40", after := #[{ on := 4, ground := Go.Ground.data }, { on := 3, ground := Go.Ground.guard }], guard := some (3, true) }) rfl (by kernel_rfl) (fun _ _ _ h => h) (by assumption) (by rfl) ?_
            | (refine Go.Shr.wpAnyF_take 5 (oi := { dst := some 82, op := Go.Op.call { callee := Go.Callee.builtin Go.Builtin.len, args := #[Go.Operand.tmp 81], argTypes := #[25] }, type := 3, pos := "more.go:40", after := #[{ on := 4, ground := Go.Ground.data }, { on := 3, ground := Go.Ground.guard }], guard := some (3, true) }) (v := ?g1rv6) rfl (by kernel_rfl) (fun _ _ _ h => h) (by assumption) (by rfl) ?g1ry6 ?g1rr6
               case g1ry6 => intro w hSw; obtain ⟨s1, s2⟩ := hSw; go_simp; try with_reducible rfl)
          try simp only [Act.put, List.setIfInBounds_toArray, List.set_cons_zero, List.set_cons_succ]
          first
            | refine Go.Shr.wpAnyF_skip 6 (oi := { dst := some 83, op := Go.Op.move (Go.Operand.tmp 12), type := 3, pos := "more.go:40", after := #[{ on := 3, ground := Go.Ground.guard }], guard := some (3, true) }) rfl (by kernel_rfl) (fun _ _ _ h => h) (by assumption) (by rfl) ?_
            | (refine Go.Shr.wpAnyF_take 6 (oi := { dst := some 83, op := Go.Op.move (Go.Operand.tmp 12), type := 3, pos := "more.go:40", after := #[{ on := 3, ground := Go.Ground.guard }], guard := some (3, true) }) (v := ?g1rv7) rfl (by kernel_rfl) (fun _ _ _ h => h) (by assumption) (by rfl) ?g1ry7 ?g1rr7
               case g1ry7 => intro w hSw; obtain ⟨s1, s2⟩ := hSw; go_simp; try with_reducible rfl)
          try simp only [Act.put, List.setIfInBounds_toArray, List.set_cons_zero, List.set_cons_succ]
          first
            | refine Go.Shr.wpAnyF_skip 7 (oi := { dst := some 84, op := Go.Op.binOp Go.BinOp.eql 3 (Go.Operand.tmp 82) (Go.Operand.tmp 83) 3, type := 4, pos := "more.go:40", after := #[{ on := 5, ground := Go.Ground.data }, { on := 6, ground := Go.Ground.data }, { on := 3, ground := Go.Ground.guard }], guard := some (3, true) }) rfl (by kernel_rfl) (fun _ _ _ h => h) (by assumption) (by rfl) ?_
            | (refine Go.Shr.wpAnyF_take 7 (oi := { dst := some 84, op := Go.Op.binOp Go.BinOp.eql 3 (Go.Operand.tmp 82) (Go.Operand.tmp 83) 3, type := 4, pos := "more.go:40", after := #[{ on := 5, ground := Go.Ground.data }, { on := 6, ground := Go.Ground.data }, { on := 3, ground := Go.Ground.guard }], guard := some (3, true) }) (v := ?g1rv8) rfl (by kernel_rfl) (fun _ _ _ h => h) (by assumption) (by rfl) ?g1ry8 ?g1rr8
               case g1ry8 => intro w hSw; obtain ⟨s1, s2⟩ := hSw; go_simp; (try simp only [beq_self_eq_true]); (try with_reducible rfl))
          try simp only [Act.put, List.setIfInBounds_toArray, List.set_cons_zero, List.set_cons_succ]
          refine Go.Shr.wpAnyF_take 8 (oi := { dst := some 85, op := Go.Op.pick (Go.Operand.tmp 80) (Go.Operand.tmp 84) (Go.Operand.const (Go.Value.bool false)), type := 4, pos := "more.go:40", after := #[{ on := 3, ground := Go.Ground.data }, { on := 7, ground := Go.Ground.data }], guard := none }) (v := ?g1rv9) rfl (by kernel_rfl) (fun _ _ _ h => h) (by assumption) (by rfl) ?g1ry9 ?g1rr9
          case g1ry9 => intro w hSw; obtain ⟨s1, s2⟩ := hSw; go_simp; try with_reducible rfl
          try simp only [Act.put, List.setIfInBounds_toArray, List.set_cons_zero, List.set_cons_succ]
          refine Go.Shr.wpAnyF_take 9 (oi := { dst := some 86, op := Go.Op.move (Go.Operand.tmp 85), type := 4, pos := "more.go:40", after := #[{ on := 8, ground := Go.Ground.data }, { on := 3, ground := Go.Ground.chain }], guard := none }) (v := ?g1rv10) rfl (by kernel_rfl) (fun _ _ _ h => h) (by assumption) (by rfl) ?g1ry10 ?g1rr10
          case g1ry10 => intro w hSw; obtain ⟨s1, s2⟩ := hSw; go_simp; try with_reducible rfl
          try simp only [Act.put, List.setIfInBounds_toArray, List.set_cons_zero, List.set_cons_succ]
          first
            | refine Go.Shr.wpAnyF_skip 10 (oi := { dst := some 87, op := Go.Op.move (Go.Operand.tmp 9), type := 25, pos := "more.go:40", after := #[{ on := 9, ground := Go.Ground.guard }], guard := some (9, true) }) rfl (by kernel_rfl) (fun _ _ _ h => h) (by assumption) (by rfl) ?_
            | (refine Go.Shr.wpAnyF_take 10 (oi := { dst := some 87, op := Go.Op.move (Go.Operand.tmp 9), type := 25, pos := "more.go:40", after := #[{ on := 9, ground := Go.Ground.guard }], guard := some (9, true) }) (v := ?g1rv11) rfl (by kernel_rfl) (fun _ _ _ h => h) (by assumption) (by rfl) ?g1ry11 ?g1rr11
               case g1ry11 => intro w hSw; obtain ⟨s1, s2⟩ := hSw; go_simp; try with_reducible rfl)
          try simp only [Act.put, List.setIfInBounds_toArray, List.set_cons_zero, List.set_cons_succ]
          refine Go.Shr.wpAnyF_ready [11] (by kernel_rfl) (by simp) ?_
          refine Go.Shr.AllReadyF.cons 11 (o := { dst := some 88, op := Go.Op.call { callee := Go.Callee.value (Go.Operand.func 12), args := #[Go.Operand.tmp 87], argTypes := #[25] }, type := 27, pos := "more.go:40", after := #[{ on := 10, ground := Go.Ground.data }, { on := 9, ground := Go.Ground.chain }, { on := 9, ground := Go.Ground.guard }], guard := some (9, true) }) rfl (fun K hK => ?g1ro12) ?g1rm12
          case g1rm12 => exact Go.Shr.AllReadyF.nil
          go_simp; refine ((leaves_v (some ⟨qb, qo, none⟩) cp l' _ (slb HQ7.out HB) (by omega) HKQ.out).mono ?_); rintro e w8 ⟨aZ, cZ, rfl, _, hb8⟩; rw [HL1.out]; dsimp only; refine gen_w (fun X2 hX => ?_); (replace HB := Go.Shr.Below.ren hX (bt HB hb8)); clear hX hb8
          refine hK.out _ _ ?g1rs12 (fun hHeld => ?g1rt12)
          case g1rs12 => (try dsimp only); (first | exact ⟨cb HB HPS.out.1, cb HB HPS.out.2⟩ | exact ⟨cb HB.drew HPS.out.1, cb HB.drew HPS.out.2⟩)
          try dsimp only at hHeld
          clear hK K
          try simp only [Act.put, List.setIfInBounds_toArray, List.set_cons_zero, List.set_cons_succ]
          first
            | refine Go.Shr.wpAnyF_skip 12 (oi := { dst := some 89, op := Go.Op.call { callee := Go.Callee.builtin Go.Builtin.len, args := #[Go.Operand.tmp 88], argTypes := #[27] }, type := 3, pos := "more.go:40", after := #[{ on := 11, ground := Go.Ground.data }, { on := 9, ground := Go.Ground.guard }], guard := some (9, true) }) rfl (by kernel_rfl) (fun _ _ _ h => h) (by assumption) (by rfl) ?_
            | (refine Go.Shr.wpAnyF_take 12 (oi := { dst := some 89, op := Go.Op.call { callee := Go.Callee.builtin Go.Builtin.len, args := #[Go.Operand.tmp 88], argTypes := #[27] }, type := 3, pos := "more.go:40", after := #[{ on := 11, ground := Go.Ground.data }, { on := 9, ground := Go.Ground.guard }], guard := some (9, true) }) (v := ?g1rv13) rfl (by kernel_rfl) (fun _ _ _ h => h) (by assumption) (by rfl) ?g1ry13 ?g1rr13
               case g1ry13 => intro w hSw; obtain ⟨s1, s2⟩ := hSw; go_simp; try with_reducible rfl)
          try simp only [Act.put, List.setIfInBounds_toArray, List.set_cons_zero, List.set_cons_succ]
          first
            | refine Go.Shr.wpAnyF_skip 13 (oi := { dst := some 90, op := Go.Op.binOp Go.BinOp.eql 3 (Go.Operand.tmp 89) (Go.Operand.const (Go.Value.int Go.IntKind.i64 1)) 3, type := 4, pos := "more.go:40", after := #[{ on := 12, ground := Go.Ground.data }, { on := 9, ground := Go.Ground.guard }], guard := some (9, true) }) rfl (by kernel_rfl) (fun _ _ _ h => h) (by assumption) (by rfl) ?_
            | (refine Go.Shr.wpAnyF_take 13 (oi := { dst := some 90, op := Go.Op.binOp Go.BinOp.eql 3 (Go.Operand.tmp 89) (Go.Operand.const (Go.Value.int Go.IntKind.i64 1)) 3, type := 4, pos := "more.go:40", after := #[{ on := 12, ground := Go.Ground.data }, { on := 9, ground := Go.Ground.guard }], guard := some (9, true) }) (v := ?g1rv14) rfl (by kernel_rfl) (fun _ _ _ h => h) (by assumption) (by rfl) ?g1ry14 ?g1rr14
               case g1ry14 => intro w hSw; obtain ⟨s1, s2⟩ := hSw; go_simp; try with_reducible rfl)
          try simp only [Act.put, List.setIfInBounds_toArray, List.set_cons_zero, List.set_cons_succ]
          refine Go.Shr.wpAnyF_take 14 (oi := { dst := some 91, op := Go.Op.pick (Go.Operand.tmp 86) (Go.Operand.tmp 90) (Go.Operand.const (Go.Value.bool false)), type := 4, pos := "more.go:40", after := #[{ on := 9, ground := Go.Ground.data }, { on := 13, ground := Go.Ground.data }], guard := none }) (v := ?g1rv15) rfl (by kernel_rfl) (fun _ _ _ h => h) (by assumption) (by rfl) ?g1ry15 ?g1rr15
          case g1ry15 => intro w hSw; obtain ⟨s1, s2⟩ := hSw; go_simp; try with_reducible rfl
          try simp only [Act.put, List.setIfInBounds_toArray, List.set_cons_zero, List.set_cons_succ]
          refine Go.Shr.wpAnyF_take 15 (oi := { dst := some 92, op := Go.Op.move (Go.Operand.tmp 91), type := 4, pos := "more.go:40", after := #[{ on := 14, ground := Go.Ground.data }, { on := 11, ground := Go.Ground.chain }], guard := none }) (v := ?g1rv16) rfl (by kernel_rfl) (fun _ _ _ h => h) (by assumption) (by rfl) ?g1ry16 ?g1rr16
          case g1ry16 => intro w hSw; obtain ⟨s1, s2⟩ := hSw; go_simp; try with_reducible rfl
          try simp only [Act.put, List.setIfInBounds_toArray, List.set_cons_zero, List.set_cons_succ]
          first
            | refine Go.Shr.wpAnyF_skip 16 (oi := { dst := some 93, op := Go.Op.move (Go.Operand.tmp 9), type := 25, pos := "more.go:40", after := #[{ on := 15, ground := Go.Ground.guard }], guard := some (15, true) }) rfl (by kernel_rfl) (fun _ _ _ h => h) (by assumption) (by rfl) ?_
            | (refine Go.Shr.wpAnyF_take 16 (oi := { dst := some 93, op := Go.Op.move (Go.Operand.tmp 9), type := 25, pos := "more.go:40", after := #[{ on := 15, ground := Go.Ground.guard }], guard := some (15, true) }) (v := ?g1rv17) rfl (by kernel_rfl) (fun _ _ _ h => h) (by assumption) (by rfl) ?g1ry17 ?g1rr17
               case g1ry17 => intro w hSw; obtain ⟨s1, s2⟩ := hSw; go_simp; try with_reducible rfl)
          try simp only [Act.put, List.setIfInBounds_toArray, List.set_cons_zero, List.set_cons_succ]
          first
            | refine Go.Shr.wpAnyF_skip 17 (oi := { dst := some 94, op := Go.Op.move (Go.Operand.tmp 9), type := 25, pos := "more.go:40", after := #[{ on := 15, ground := Go.Ground.guard }], guard := some (15, true) }) rfl (by kernel_rfl) (fun _ _ _ h => h) (by assumption) (by rfl) ?_
            | (refine Go.Shr.wpAnyF_take 17 (oi := { dst := some 94, op := Go.Op.move (Go.Operand.tmp 9), type := 25, pos := "more.go:40", after := #[{ on := 15, ground := Go.Ground.guard }], guard := some (15, true) }) (v := ?g1rv18) rfl (by kernel_rfl) (fun _ _ _ h => h) (by assumption) (by rfl) ?g1ry18 ?g1rr18
               case g1ry18 => intro w hSw; obtain ⟨s1, s2⟩ := hSw; go_simp; try with_reducible rfl)
          try simp only [Act.put, List.setIfInBounds_toArray, List.set_cons_zero, List.set_cons_succ]
          first
            | refine Go.Shr.wpAnyF_skip 18 (oi := { dst := some 95, op := Go.Op.call { callee := Go.Callee.builtin Go.Builtin.len, args := #[Go.Operand.tmp 94], argTypes := #[25] }, type := 3, pos := "more.go:40", after := #[{ on := 17, ground := Go.Ground.data }, { on := 15, ground := Go.Ground.guard }], guard := some (15, true) }) rfl (by kernel_rfl) (fun _ _ _ h => h) (by assumption) (by rfl) ?_
            | (refine Go.Shr.wpAnyF_take 18 (oi := { dst := some 95, op := Go.Op.call { callee := Go.Callee.builtin Go.Builtin.len, args := #[Go.Operand.tmp 94], argTypes := #[25] }, type := 3, pos := "more.go:40", after := #[{ on := 17, ground := Go.Ground.data }, { on := 15, ground := Go.Ground.guard }], guard := some (15, true) }) (v := ?g1rv19) rfl (by kernel_rfl) (fun _ _ _ h => h) (by assumption) (by rfl) ?g1ry19 ?g1rr19
               case g1ry19 => intro w hSw; obtain ⟨s1, s2⟩ := hSw; go_simp; try with_reducible rfl)
          try simp only [Act.put, List.setIfInBounds_toArray, List.set_cons_zero, List.set_cons_succ]
          first
            | refine Go.Shr.wpAnyF_skip 19 (oi := { dst := some 96, op := Go.Op.binOp Go.BinOp.sub 3 (Go.Operand.tmp 95) (Go.Operand.const (Go.Value.int Go.IntKind.i64 1)) 3, type := 3, pos := "more.go:40", after := #[{ on := 18, ground := Go.Ground.data }, { on := 15, ground := Go.Ground.guard }], guard := some (15, true) }) rfl (by kernel_rfl) (fun _ _ _ h => h) (by assumption) (by rfl) ?_
            | (refine Go.Shr.wpAnyF_take 19 (oi := { dst := some 96, op := Go.Op.binOp Go.BinOp.sub 3 (Go.Operand.tmp 95) (Go.Operand.const (Go.Value.int Go.IntKind.i64 1)) 3, type := 3, pos := "more.go:40", after := #[{ on := 18, ground := Go.Ground.data }, { on := 15, ground := Go.Ground.guard }], guard := some (15, true) }) (v := ?g1rv20) rfl (by kernel_rfl) (fun _ _ _ h => h) (by assumption) (by rfl) ?g1ry20 ?g1rr20
               case g1ry20 => intro w hSw; obtain ⟨s1, s2⟩ := hSw; go_simp; try with_reducible rfl)
          try simp only [Act.put, List.setIfInBounds_toArray, List.set_cons_zero, List.set_cons_succ]
          first
            | refine Go.Shr.wpAnyF_skip 20 (oi := { dst := some 97, op := Go.Op.indexAddr 25 (Go.Operand.tmp 93) (Go.Operand.tmp 96), type := 0, pos := "more.go:40", after := #[{ on := 16, ground := Go.Ground.data }, { on := 19, ground := Go.Ground.data }, { on := 15, ground := Go.Ground.guard }], guard := some (15, true) }) rfl (by kernel_rfl) (fun _ _ _ h => h) (by assumption) (by rfl) ?_
            | (refine Go.Shr.wpAnyF_take 20 (oi := { dst := some 97, op := Go.Op.indexAddr 25 (Go.Operand.tmp 93) (Go.Operand.tmp 96), type := 0, pos := "more.go:40", after := #[{ on := 16, ground := Go.Ground.data }, { on := 19, ground := Go.Ground.data }, { on := 15, ground := Go.Ground.guard }], guard := some (15, true) }) (v := ?g1rv21) rfl (by kernel_rfl) (fun _ _ _ h => h) (by assumption) (by rfl) ?g1ry21 ?g1rr21
               case g1ry21 => intro w hSw; obtain ⟨s1, s2⟩ := hSw; go_simp; try with_reducible rfl)
          try simp only [Act.put, List.setIfInBounds_toArray, List.set_cons_zero, List.set_cons_succ]
          first
            | refine Go.Shr.wpAnyF_skip 21 (oi := { dst := some 98, op := Go.Op.fieldAddr 40 (Go.Operand.tmp 97) 2, type := 0, pos := "more.go:40", after := #[{ on := 20, ground := Go.Ground.data }, { on := 15, ground := Go.Ground.guard }], guard := some (15, true) }) rfl (by kernel_rfl) (fun _ _ _ h => h) (by assumption) (by rfl) ?_
            | (refine Go.Shr.wpAnyF_take 21 (oi := { dst := some 98, op := Go.Op.fieldAddr 40 (Go.Operand.tmp 97) 2, type := 0, pos := "more.go:40", after := #[{ on := 20, ground := Go.Ground.data }, { on := 15, ground := Go.Ground.guard }], guard := some (15, true) }) (v := ?g1rv22) rfl (by kernel_rfl) (fun _ _ _ h => h) (by assumption) (by rfl) ?g1ry22 ?g1rr22
               case g1ry22 => intro w hSw; obtain ⟨s1, s2⟩ := hSw; go_simp; try with_reducible rfl)
          try simp only [Act.put, List.setIfInBounds_toArray, List.set_cons_zero, List.set_cons_succ]
          first
            | refine Go.Shr.wpAnyF_skip 22 (oi := { dst := some 99, op := Go.Op.load 3 (Go.Operand.tmp 98), type := 3, pos := "more.go:40", after := #[{ on := 21, ground := Go.Ground.data }, { on := 15, ground := Go.Ground.guard }], guard := some (15, true) }) rfl (by kernel_rfl) (fun _ _ _ h => h) (by assumption) (by rfl) ?_
            | (refine Go.Shr.wpAnyF_take 22 (oi := { dst := some 99, op := Go.Op.load 3 (Go.Operand.tmp 98), type := 3, pos := "more.go:40", after := #[{ on := 21, ground := Go.Ground.data }, { on := 15, ground := Go.Ground.guard }], guard := some (15, true) }) (v := ?g1rv23) rfl (by kernel_rfl) (fun _ _ _ h => h) (by assumption) (by rfl) ?g1ry23 ?g1rr23
               case g1ry23 => intro w hSw; obtain ⟨s1, s2⟩ := hSw; go_simp; try with_reducible rfl)
          try simp only [Act.put, List.setIfInBounds_toArray, List.set_cons_zero, List.set_cons_succ]
          first
            | refine Go.Shr.wpAnyF_skip 23 (oi := { dst := some 100, op := Go.Op.move (Go.Operand.tmp 5), type := 25, pos := "more.go:40", after := #[{ on := 15, ground := Go.Ground.guard }], guard := some (15, true) }) rfl (by kernel_rfl) (fun _ _ _ h => h) (by assumption) (by rfl) ?_
            | (refine Go.Shr.wpAnyF_take 23 (oi := { dst := some 100, op := Go.Op.move (Go.Operand.tmp 5), type := 25, pos := "more.go:40", after := #[{ on := 15, ground := Go.Ground.guard }], guard := some (15, true) }) (v := ?g1rv24) rfl (by kernel_rfl) (fun _ _ _ h => h) (by assumption) (by rfl) ?g1ry24 ?g1rr24
               case g1ry24 => intro w hSw; obtain ⟨s1, s2⟩ := hSw; go_simp; try with_reducible rfl)
          try simp only [Act.put, List.setIfInBounds_toArray, List.set_cons_zero, List.set_cons_succ]
          first
            | refine Go.Shr.wpAnyF_skip 24 (oi := { dst := some 101, op := Go.Op.move (Go.Operand.tmp 7), type := 3, pos := "more.go:40", after := #[{ on := 15, ground := Go.Ground.guard }], guard := some (15, true) }) rfl (by kernel_rfl) (fun _ _ _ h => h) (by assumption) (by rfl) ?_
            | (refine Go.Shr.wpAnyF_take 24 (oi := { dst := some 101, op := Go.Op.move (Go.Operand.tmp 7), type := 3, pos := "more.go:40", after := #[{ on := 15, ground := Go.Ground.guard }], guard := some (15, true) }) (v := ?g1rv25) rfl (by kernel_rfl) (fun _ _ _ h => h) (by assumption) (by rfl) ?g1ry25 ?g1rr25
               case g1ry25 => intro w hSw; obtain ⟨s1, s2⟩ := hSw; go_simp; try with_reducible rfl)
          try simp only [Act.put, List.setIfInBounds_toArray, List.set_cons_zero, List.set_cons_succ]
          first
            | refine Go.Shr.wpAnyF_skip 25 (oi := { dst := some 102, op := Go.Op.indexAddr 25 (Go.Operand.tmp 100) (Go.Operand.tmp 101), type := 0, pos := "more.go:40", after := #[{ on := 23, ground := Go.Ground.data }, { on := 24, ground := Go.Ground.data }, { on := 15, ground := Go.Ground.guard }], guard := some (15, true) }) rfl (by kernel_rfl) (fun _ _ _ h => h) (by assumption) (by rfl) ?_
            | (refine Go.Shr.wpAnyF_take 25 (oi := { dst := some 102, op := Go.Op.indexAddr 25 (Go.Operand.tmp 100) (Go.Operand.tmp 101), type := 0, pos := "more.go:40", after := #[{ on := 23, ground := Go.Ground.data }, { on := 24, ground := Go.Ground.data }, { on := 15, ground := Go.Ground.guard }], guard := some (15, true) }) (v := ?g1rv26) rfl (by kernel_rfl) (fun _ _ _ h => h) (by assumption) (by rfl) ?g1ry26 ?g1rr26
               case g1ry26 => intro w hSw; obtain ⟨s1, s2⟩ := hSw; go_simp; try with_reducible rfl)
          try simp only [Act.put, List.setIfInBounds_toArray, List.set_cons_zero, List.set_cons_succ]
          first
            | refine Go.Shr.wpAnyF_skip 26 (oi := { dst := some 103, op := Go.Op.fieldAddr 40 (Go.Operand.tmp 102) 2, type := 0, pos := "more.go:40", after := #[{ on := 25, ground := Go.Ground.data }, { on := 15, ground := Go.Ground.guard }], guard := some (15, true) }) rfl (by kernel_rfl) (fun _ _ _ h => h) (by assumption) (by rfl) ?_
            | (refine Go.Shr.wpAnyF_take 26 (oi := { dst := some 103, op := Go.Op.fieldAddr 40 (Go.Operand.tmp 102) 2, type := 0, pos := "more.go:40", after := #[{ on := 25, ground := Go.Ground.data }, { on := 15, ground := Go.Ground.guard }], guard := some (15, true) }) (v := ?g1rv27) rfl (by kernel_rfl) (fun _ _ _ h => h) (by assumption) (by rfl) ?g1ry27 ?g1rr27
               case g1ry27 => intro w hSw; obtain ⟨s1, s2⟩ := hSw; go_simp; try with_reducible rfl)
          try simp only [Act.put, List.setIfInBounds_toArray, List.set_cons_zero, List.set_cons_succ]
          first
            | refine Go.Shr.wpAnyF_skip 27 (oi := { dst := some 104, op := Go.Op.load 3 (Go.Operand.tmp 103), type := 3, pos := "more.go:40", after := #[{ on := 26, ground := Go.Ground.data }, { on := 15, ground := Go.Ground.guard }], guard := some (15, true) }) rfl (by kernel_rfl) (fun _ _ _ h => h) (by assumption) (by rfl) ?_
            | (refine Go.Shr.wpAnyF_take 27 (oi := { dst := some 104, op := Go.Op.load 3 (Go.Operand.tmp 103), type := 3, pos := "more.go:40", after := #[{ on := 26, ground := Go.Ground.data }, { on := 15, ground := Go.Ground.guard }], guard := some (15, true) }) (v := ?g1rv28) rfl (by kernel_rfl) (fun _ _ _ h => h) (by assumption) (by rfl) ?g1ry28 ?g1rr28
               case g1ry28 => intro w hSw; obtain ⟨s1, s2⟩ := hSw; go_simp; try with_reducible rfl)
          try simp only [Act.put, List.setIfInBounds_toArray, List.set_cons_zero, List.set_cons_succ]
          first
            | refine Go.Shr.wpAnyF_skip 28 (oi := { dst := some 105, op := Go.Op.binOp Go.BinOp.eql 3 (Go.Operand.tmp 99) (Go.Operand.tmp 104) 3, type := 4, pos := "more.go:40", after := #[{ on := 22, ground := Go.Ground.data }, { on := 27, ground := Go.Ground.data }, { on := 15, ground := Go.Ground.guard }], guard := some (15, true) }) rfl (by kernel_rfl) (fun _ _ _ h => h) (by assumption) (by rfl) ?_
            | (refine Go.Shr.wpAnyF_take 28 (oi := { dst := some 105, op := Go.Op.binOp Go.BinOp.eql 3 (Go.Operand.tmp 99) (Go.Operand.tmp 104) 3, type := 4, pos := "more.go:40", after := #[{ on := 22, ground := Go.Ground.data }, { on := 27, ground := Go.Ground.data }, { on := 15, ground := Go.Ground.guard }], guard := some (15, true) }) (v := ?g1rv29) rfl (by kernel_rfl) (fun _ _ _ h => h) (by assumption) (by rfl) ?g1ry29 ?g1rr29
               case g1ry29 => intro w hSw; obtain ⟨s1, s2⟩ := hSw; go_simp; (try simp only [beq_self_eq_true]); (try with_reducible rfl))
          try simp only [Act.put, List.setIfInBounds_toArray, List.set_cons_zero, List.set_cons_succ]
          refine Go.Shr.wpAnyF_take 29 (oi := { dst := some 106, op := Go.Op.pick (Go.Operand.tmp 92) (Go.Operand.tmp 105) (Go.Operand.const (Go.Value.bool false)), type := 4, pos := "more.go:40", after := #[{ on := 15, ground := Go.Ground.data }, { on := 28, ground := Go.Ground.data }], guard := none }) (v := ?g1rv30) rfl (by kernel_rfl) (fun _ _ _ h => h) (by assumption) (by rfl) ?g1ry30 ?g1rr30
          case g1ry30 => intro w hSw; obtain ⟨s1, s2⟩ := hSw; go_simp; try with_reducible rfl
          try simp only [Act.put, List.setIfInBounds_toArray, List.set_cons_zero, List.set_cons_succ]
          refine Go.Shr.wpAnyF_ready [30] (by kernel_rfl) (by simp) ?_
          refine Go.Shr.AllReadyF.last 30 (o := { dst := some 4, op := Go.Op.assign (Go.Operand.tmp 106), type := 4, pos := "more.go:40", after := #[{ on := 29, ground := Go.Ground.data }, { on := 15, ground := Go.Ground.chain }, { on := 0, ground := Go.Ground.phase }, { on := 1, ground := Go.Ground.phase }, { on := 2, ground := Go.Ground.phase }, { on := 3, ground := Go.Ground.phase }, { on := 4, ground := Go.Ground.phase }, { on := 5, ground := Go.Ground.phase }, { on := 6, ground := Go.Ground.phase }, { on := 7, ground := Go.Ground.phase }, { on := 8, ground := Go.Ground.phase }, { on := 9, ground := Go.Ground.phase }, { on := 10, ground := Go.Ground.phase }, { on := 11, ground := Go.Ground.phase }, { on := 12, ground := Go.Ground.phase }, { on := 13, ground := Go.Ground.phase }, { on := 14, ground := Go.Ground.phase }, { on := 15, ground := Go.Ground.phase }, { on := 16, ground := Go.Ground.phase }, { on := 17, ground := Go.Ground.phase }, { on := 18, ground := Go.Ground.phase }, { on := 19, ground := Go.Ground.phase }, { on := 20, ground := Go.Ground.phase }, { on := 21, ground := Go.Ground.phase }, { on := 22, ground := Go.Ground.phase }, { on := 23, ground := Go.Ground.phase }, { on := 24, ground := Go.Ground.phase }, { on := 25, ground := Go.Ground.phase }, { on := 26, ground := Go.Ground.phase }, { on := 27, ground := Go.Ground.phase }, { on := 28, ground := Go.Ground.phase }, { on := 29, ground := Go.Ground.phase }], guard := none }) rfl (by kernel_rfl) (fun K hK => ?g1ro31) ?g1rm31
          case g1rm31 => exact Go.Shr.AllReadyF.nil
          go_simp
          refine hK.out _ _ ?_
          clear hK K
          try simp only [Act.put, List.setIfInBounds_toArray, List.set_cons_zero, List.set_cons_succ]
          refine Go.Shr.wpAnyF_done (by kernel_rfl) ?_
          go_wp2_with fail
          go_ret
          exact ⟨rfl, bt HB7.out HB⟩
    · obtain ⟨k, rfl⟩ : ∃ k : Nat, z = k := ⟨z.toNat, by omega⟩
      have hk : k < l.length := by omega
      have hki : k < (par l).length := by rw [HPL.out]; exact hk
      have q0 := HPC.out _ _ (ints_get (par l) k hki)
      have hqb := par_bd l k hki
      have kc := HKC.out _ _ (bls_get (fun i => decide (i ∈ Go.Shr.chain (par l) f)) hk)
      have hkm : decide (k ∈ Go.Shr.chain (par l) f) = true := decide_eq_true (HM.out k (by rw [chainI_nat]; exact chain_self _ _))
      rw [hkm] at kc
      have HX2 : Hid (n + 1 + (chainI (par l) (par l)[k]).length = (Go.Shr.chain (par l) f).length) := Lib.hid (by
        have := HX.out
        rw [chainI_nat, chain_eq (fun j hj => par_bd l j hj) hki, List.length_cons] at this
        omega)
      have HM2 : Hid (∀ x ∈ chainI (par l) (par l)[k], x ∈ Go.Shr.chain (par l) f) := Lib.hid (fun x hx => HM.out x (by
        rw [chainI_nat, chain_eq (fun j hj => par_bd l j hj) hki]; exact List.mem_cons_of_mem _ hx))
      have hn2 : n + 1 ≤ 20 := by have := HX2.out; omega
      generalize (par l)[k] = q' at *
      clear HX HM hkm
      go_wp2_with fail
      go_round
      case rel => exact ⟨n + 1, q', by go_num, rfl, hn2, by omega, by omega, HX2, HM2⟩
      case measure => simp [intOf]; omega
end Go.Proofs.Ytgpffcgkfgiodaa
