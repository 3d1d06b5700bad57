/-
  The walk of VarintPuts.
-/
import Derived.Test.YtklimbadankdkaaReads3
import Derived.Deep.CutRange
namespace Go.Proofs.Ytklimbadankdkaa
open Go.RowKit Go.Shr
set_option maxHeartbeats 1600000 in
set_option maxRecDepth 100000 in
theorem law_puts (a : Option Addr) (n cap : Nat) (bs : List UInt8) (v m : Int) (a2 : Option Addr) (n2 cap2 : Nat) (cs : List UInt8) (w : World) (hl : Sl (fun b => b < w.heap.size) w 1 a n cap (u8s bs)) (hv : (Lit.int .u64 v).wf = true) (_ : (Lit.int .i64 m).wf = true) (hl2 : Sl (fun b => b < w.heap.size) w 1 a2 n2 cap2 (u8s cs)) :
    Calls Try.prog 6 #[.slice a n cap, .int .u64 v, .int .i64 m, .slice a2 n2 cap2] w fun e w' => e = .returned (.bool true) ∧ Below w.heap.size w w' := by
  obtain ⟨i0, hi, hz0, hz1, hz2⟩ := info_parts info_u8
  have hmax := hl.max
  have hle := hl.le
  have hmax2 := hl2.max
  have hle2 := hl2.le
  unfold maxLen at hmax hmax2
  have HL := Lib.hid hl; clear hl
  have HL2 := Lib.hid hl2; clear hl2
  have hV := Lib.hid (wf_u64 hv)
  have hlen : bs.length = n := by have := HL.out.len; simpa using this
  have HN := Lib.hid hlen; clear hlen
  have hlen2 : cs.length = n2 := by have := HL2.out.len; simpa using this
  have HN2 := Lib.hid hlen2; clear hlen2
  obtain ⟨d, hd⟩ : ∃ d : Nat, m % 64 = (d : Int) := ⟨(m % 64).toNat, by omega⟩
  have hd64 : d < 64 := by omega
  have HD := Lib.hid hd; clear hd hv
  by_cases hbig : 50 < n
  · go_enter Try.func6, Try.ntmps6
    go_wp2_with fail
    refine (known_any w).mono ?_
    rintro e w1 ⟨rfl, hb1⟩
    go_wp2
    go_ret
    exact ⟨rfl, hb1⟩
  · have hdec : decide ((50 : Int) < (n : Int)) = false := decide_eq_false (by omega)
    by_cases hbig2 : 50 < n2
    · go_enter Try.func6, Try.ntmps6
      go_wp2_with fail
      refine (known_any w).mono ?_
      rintro e w1 ⟨rfl, hb1⟩
      go_wp2
      go_ret
      exact ⟨rfl, hb1⟩
    · have hdec2 : decide ((50 : Int) < (n2 : Int)) = false := decide_eq_false (by omega)
      go_enter Try.func6, Try.ntmps6
      go_wp2_with fail
      refine (known_any w).mono ?_
      rintro e w1 ⟨rfl, hb1⟩
      go_wp2_with fail
      refine (within_i m 64 w1 (by decide) (by decide)).mono ?_
      rintro e w2 ⟨rfl, rfl⟩
      rw [HD.out]
      go_wp2_with fail
      refine (within_i m 64 w1 (by decide) (by decide)).mono ?_
      rintro e w2 ⟨rfl, rfl⟩
      rw [HD.out]
      go_wp2_with fail
      refine (within_i m 64 w1 (by decide) (by decide)).mono ?_
      rintro e w2 ⟨rfl, rfl⟩
      rw [HD.out]
      go_wp2_with fail
      obtain ⟨x0, hx0⟩ := Int.eq_ofNat_of_zero_le hV.out.1
      have wnat : ∀ z : Int, ∃ x : Nat, IntKind.u64.wrap z = (x : Int) ∧ x < 18446744073709551616 := fun z => ⟨(IntKind.u64.wrap z).toNat, by rw [IntKind.wrap_u64]; omega, by rw [IntKind.wrap_u64]; omega⟩
      obtain ⟨x2, hx2, hx2l⟩ := wnat (2 ^ d)
      obtain ⟨x3, hx3, hx3l⟩ := wnat (IntKind.u64.wrap (2 ^ d) - 1)
      have hx1 : v / 2 ^ d = ((x0 / 2 ^ d : Nat) : Int) := by rw [hx0]; simp
      have hx0l : x0 < 18446744073709551616 := by have := hV.out; omega
      have hx1l : x0 / 2 ^ d < 18446744073709551616 := Nat.lt_of_le_of_lt (Nat.div_le_self _ _) hx0l
      generalize x0 / 2 ^ d = x1 at hx1 hx1l
      have hrows : ∀ i, i < 4 → ∃ x : Nat, (w1.alloc (.cells #[.int .u64 v, .int .u64 (v / 2 ^ d), .int .u64 (IntKind.u64.wrap (2 ^ d)), .int .u64 (IntKind.u64.wrap (IntKind.u64.wrap (2 ^ d) - 1))] 24)).cell? ⟨w1.heap.size, i, none⟩ = some (.int .u64 (x : Int)) ∧ Hid (x < 18446744073709551616) := by
        intro i hi
        match i, hi with
        | 0, _ => exact ⟨x0, by simp [hx0], Lib.hid hx0l⟩
        | 1, _ => exact ⟨x1, by simp [hx1], Lib.hid hx1l⟩
        | 2, _ => exact ⟨x2, by simp [hx2], Lib.hid hx2l⟩
        | 3, _ => exact ⟨x3, by simp [hx3], Lib.hid hx3l⟩
      clear hx0 hx1 hx2 hx3 hx0l hx1l hx2l hx3l wnat
      have hbW : Below w.heap.size w (w1.alloc (.cells #[.int .u64 v, .int .u64 (v / 2 ^ d), .int .u64 (IntKind.u64.wrap (2 ^ d)), .int .u64 (IntKind.u64.wrap (IntKind.u64.wrap (2 ^ d) - 1))] 24)) := hb1.alloc hb1.size _
      have hszW : w1.heap.size < (w1.alloc (.cells #[.int .u64 v, .int .u64 (v / 2 ^ d), .int .u64 (IntKind.u64.wrap (2 ^ d)), .int .u64 (IntKind.u64.wrap (IntKind.u64.wrap (2 ^ d) - 1))] 24)).heap.size := by simp
      generalize (w1.alloc (.cells #[.int .u64 v, .int .u64 (v / 2 ^ d), .int .u64 (IntKind.u64.wrap (2 ^ d)), .int .u64 (IntKind.u64.wrap (IntKind.u64.wrap (2 ^ d) - 1))] 24)) = W0 at *
      generalize w1.heap.size = R at *
      have HR := Lib.hid hrows; clear hrows hb1
      go_loopw [10] (fun i wr => ∃ q : Nat, i = .int .i64 q ∧ q ≤ 4 ∧ Below W0.heap.size W0 wr) (fun i _ => 4 - (intOf i).toNat)
      case atStart => exact ⟨0, rfl, by omega, Below.refl _ _⟩
      case round =>
        obtain ⟨q, rfl, hq, hbq⟩ := hrel
        have hszq := hbq.size
        have hszW2 := hbW.size
        by_cases hq4 : q < 4
        · obtain ⟨x, hcr, HX⟩ := HR.out q hq4
          have hcq : wr.cell? ⟨R, q, none⟩ = some (.int .u64 (x : Int)) := (hbq.cell (p := ⟨R, q, none⟩) hszW).trans hcr
          have HB := Lib.hid (hbW.trans (hbq.mono hszW2))
          have HS := Lib.hid (HL.out.below HB.out)
          have HS2 := Lib.hid (HL2.out.below HB.out)
          have hsrc : ∀ o, Src Try.prog 1 26 (.slice a n cap) n (u8s bs) (wr.drew.alloc o) := fun o => (HS.out.drew.alloc o).src (P := Try.prog) (tx := 26) Try.underlying26 (u8s_one _)
          have HSRC := Lib.hid hsrc; clear hsrc hcr
          have hqi : (0 : Int) ≤ (q : Int) := by omega
          have hqi4 : (q : Int) < 4 := by omega
          go_wp2_with fail
          go_region_held3 (fun w' => w'.cell? ⟨R, q, none⟩ = some (.int .u64 (x : Int)))
            (first | go_keep | exact hk3 | exact hk4)
            (first
              | (refine step_fresh (B := wr.heap.size) rfl _ _ _ _ rfl i0 (.int .u8 0) 1 Try.underlying26 hi hz0 hz1 hz2 rfl rfl _ rfl _ _ (HSRC.out _) (by simp only [maxLen]; omega) (by omega) (by first | omega | (simp; omega) | simp) ?_; intro a3 cap3 w3 hown3 hb3 hnew3; have hk3 : w3.cell? ⟨R, q, none⟩ = some (.int .u64 (x : Int)) := (hb3.cell (p := ⟨R, q, none⟩) (by simp; omega)).trans (by go_keep))
              | (go_at_call 12; refine (put_u8 _ a3 n cap3 bs x w3 hown3.sl (by omega) HX.out).mono ?_; rintro e w4 ⟨a4, n4, cap4, rfl, hown4, hb4⟩; have hk4 : w4.cell? ⟨R, q, none⟩ = some (.int .u64 (x : Int)) := (hb4.cell (p := ⟨R, q, none⟩) (World.block_lt_of_cell? w3 ⟨R, q, none⟩ hk3)).trans hk3))
          have hszr : w.heap.size ≤ wr.heap.size := by omega
          have hB4 : Below w.heap.size w w4 := (HB.out.trans ((((Below.refl wr.heap.size wr).alloc (Nat.le_refl _) (.cells #[] 5)).drew).trans ((hb3.mono (by simp)).trans (hb4.mono (by have := hb3.size; simp at this; omega))) |>.mono hszr))
          have hpos := vput_pos x
          have hten := vput_len 9 x (by have := HX.out; omega)
          have hn4 : n4 = n + (vput x).length := by have h1 := hown4.len; have h2 := HN.out; simp at h1; omega
          have S4 := Lib.hid (hown4.sl.mono (ok' := fun b => b < w4.heap.size) (fun _ h _ => h) (by decide))
          have hget := vget_vput x cs HX.out
          have hcut : vget (vput x).dropLast = (0, 0, 8) := vget_cut x HX.out
          have HG := Lib.hid hget; have HC := Lib.hid hcut; clear hget hcut
          have HSB := Lib.hid (HL.out.below hB4); have HSC := Lib.hid (HL2.out.below hB4)
          have hszB := hB4.size
          have HB4 := Lib.hid hB4
          have hBq4 := Lib.hid (hbq.trans ((((Below.refl wr.heap.size wr).alloc (Nat.le_refl _) (.cells #[] 5)).drew).trans ((hb3.mono (by simp)).trans (hb4.mono (by have := hb3.size; simp at this; omega))) |>.mono hszq))
          clear hown3 hb3 hnew3 hk3 hown4 hb4 hB4 HSRC HS HS2 HB hbq hcq hszr
          subst hn4
          generalize (vput x).length = L at *
          have hcv1 : (convert 26 9 (.slice a4 (n + L) cap4)).run Try.prog w4.drew = .ok (.string ⟨(bs ++ vput x).toArray⟩) w4.drew := S4.out.drew.toString Try.underlying26 Try.underlying5 Try.underlying9
          go_wp2_with fail
          have hk4d : w4.drew.cell? ⟨R, q, none⟩ = some (.int .u64 (x : Int)) := hk4
          have S4d := Lib.hid S4.out.drew
          go_cut [66] from 57 to 66 (fun t wc => t = .bool false ∧ Below w4.heap.size w4 wc)
          case first =>
            go_region_with (go_at_call 17; refine (rput_u8 _ a n cap bs x _ HSB.out.drew (by omega) HX.out).mono ?_; rintro e w5 ⟨a5, n5, cap5, rfl, hown5, hb5⟩; have hk5 : w5.cell? ⟨R, q, none⟩ = some (.int .u64 (x : Int)) := (hb5.cell (p := ⟨R, q, none⟩) (World.block_lt_of_cell? w4.drew ⟨R, q, none⟩ hk4d)).trans hk4d; have hcv2 : (convert 26 9 (.slice a4 (n + L) cap4)).run Try.prog w5 = .ok (.string ⟨(bs ++ vput x).toArray⟩) w5 := (S4d.out.below hb5).toString Try.underlying26 Try.underlying5 Try.underlying9; have hcv3 : (convert 26 9 (.slice a5 n5 cap5)).run Try.prog w5 = .ok (.string ⟨(bs ++ vput x).toArray⟩) w5 := hown5.sl.toString Try.underlying26 Try.underlying5 Try.underlying9)
            all_goals
              go_wp2
              go_meet
              case rel => exact ⟨rfl, (Below.refl _ _).drew.trans hb5⟩
          case rest =>
            obtain ⟨rfl, hb5⟩ := hcut
            have hk5 : wc.cell? ⟨R, q, none⟩ = some (.int .u64 (x : Int)) := (hb5.cell (p := ⟨R, q, none⟩) (World.block_lt_of_cell? w4 ⟨R, q, none⟩ hk4)).trans hk4
            have hszv := hb5.size
            have hbW5 : Below w.heap.size w wc := HB4.out.trans (hb5.mono hszB)
            have hbq5 : Below W0.heap.size W0 wc := hBq4.out.trans (hb5.mono hBq4.out.size)
            have HW5 := Lib.hid hbW5; have HQ5 := Lib.hid hbq5; clear hbW5 hbq5
            have S45 := S4.out.below hb5
            obtain ⟨a6, hrun6, hs6⟩ := S45.from (P := Try.prog) (t := 26) Try.underlying26 hi hz1 .i64 (n : Int) (by omega) (by omega)
            rw [u8s_append, Int.toNat_natCast, Nat.mul_one, List.drop_left' (by rw [u8s_length]; exact HN.out), show n + L - n = L by omega] at hs6
            rw [Int.toNat_natCast, show n + L - n = L by omega] at hrun6
            have HS6 := Lib.hid hs6
            obtain ⟨a7, hrun7, hs7⟩ := hs6.upto (P := Try.prog) (t := 26) Try.underlying26 hi hz1 .i64 ((L : Int) - 1) (by omega) (by omega)
            have HL7 : Hid ((vput x).length = L) := Lib.hid (by have h1 := hs6.len; simpa using h1)
            rw [show ((L : Int) - 1).toNat = L - 1 by omega] at hrun7 hs7
            rw [Nat.mul_one, show List.take (L - 1) (u8s (vput x)) = u8s ((vput x).dropLast) by rw [List.dropLast_eq_take, HL7.out]; simp [u8s, List.map_take]] at hs7
            have HS7 := Lib.hid hs7
            clear S45 hs6 hs7 hb5 hcv1
            have hsrc6 := ((HS6.out).alloc (.cells #[] 5)).src (P := Try.prog) (tx := 26) Try.underlying26 (u8s_one _)
            have HSRC6 := Lib.hid hsrc6; clear hsrc6
            have tA : True := trivial
            have tB : True := trivial
            have hn0 : 0 ≤ (n : Int) := by omega
            go_wp2_with (first
              | (at_builtin; have _t := tA; clear tA; clear _t; refine wpList_fresh (B := wc.heap.size) rfl _ _ _ _ rfl i0 (.int .u8 0) 1 Try.underlying26 hi hz0 hz1 hz2 rfl rfl _ rfl _ _ (HSRC6.out) (by simp only [maxLen]; omega) (by omega) (by first | omega | (simp; omega) | simp) ?_; intro a8 cap8 w8 hown8 hb8 hnew8; have hb8' : Below wc.heap.size wc w8 := ((Below.refl _ _).alloc (Nat.le_refl _) _).trans (hb8.mono (by simp)); have hsz8 := hb8'.size; have HB8 := Lib.hid hb8'; have HO8 := Lib.hid hown8; clear hown8 hb8 hnew8 hb8'; have HSR8 := Lib.hid ((HL2.out.below HW5.out).below HB8.out))
              | (at_builtin; have _t := tB; clear tB; clear _t; refine wpList_append (B := wc.heap.size) rfl _ _ _ _ rfl i0 (.int .u8 0) 1 Try.underlying26 hi hz0 hz1 hz2 rfl rfl (HO8.out) _ rfl _ _ ((HSR8.out).src (P := Try.prog) (tx := 26) Try.underlying26 (u8s_one _)) (by simp only [maxLen]; omega) (by omega) (by first | omega | (simp; omega) | simp) ?_; intro a9 cap9 w9 hown9 hchg9 hnew9; have hb9 : Below wc.heap.size wc w9 := HB8.out.trans (hchg9.below hsz8 (fun i hi h => by omega)); have HB9 := Lib.hid hb9; have HO9 := Lib.hid hown9; clear hown9 hchg9 hnew9 hb9)
              | (go_at_call 18; refine (get_u8 _ a9 (L + n2) cap9 (vput x ++ cs) w9 (by rw [u8s_append]; exact HO9.out.sl) (by omega)).mono ?_))
            rintro e w10 ⟨rfl, rfl⟩
            rw [HG.out]
            have hk9 : w9.cell? ⟨R, q, none⟩ = some (.int .u64 (x : Int)) := (HB9.out.cell (p := ⟨R, q, none⟩) (World.block_lt_of_cell? wc ⟨R, q, none⟩ hk5)).trans hk5
            go_wp2_with fail
            refine (get_u8 _ a7 (L - 1) (cap4 - n) (vput x).dropLast w9 (HS7.out.below HB9.out) (by omega)).mono ?_
            rintro e w10 ⟨rfl, rfl⟩
            rw [HC.out]
            go_wp2
            go_roundw
            case rel => exact ⟨q + 1, by go_num, by omega, HQ5.out.trans (HB9.out.mono HQ5.out.size)⟩
            case measure => simp [intOf]; omega
        · go_wp2
          go_ret
          exact ⟨rfl, hbW.trans (hbq.mono hbW.size)⟩
end Go.Proofs.Ytklimbadankdkaa
