/-
  The walk of VarintReads.
-/
import Derived.Test.YtklimbadankdkaaRows3
import Derived.Test.YtklimbadankdkaaBase2
namespace Go.Shr
theorem vget_high (l r : List UInt8) : ∀ (k acc : Nat), (∀ x ∈ l, 128 ≤ x.toNat) → k + l.length ≤ 9 → ∃ acc', vgetFrom k acc (l ++ r) = vgetFrom (k + l.length) acc' r := by
  induction l with
  | nil => exact fun k acc _ _ => ⟨acc, rfl⟩
  | cons x l ih =>
    intro k acc h hk
    have hx := h x (List.mem_cons_self ..)
    simp only [List.length_cons] at hk
    obtain ⟨acc', e⟩ := ih (k + 1) (acc + (x.toNat % 128) * 128 ^ k) (fun y hy => h y (List.mem_cons_of_mem _ hy)) (by omega)
    refine ⟨acc', ?_⟩
    rw [List.cons_append, vgetFrom, if_neg (by omega), if_neg (by omega), e, List.length_cons, show k + 1 + l.length = k + (l.length + 1) by omega]
theorem vput_high (v : Nat) : ∀ x ∈ (vput v).dropLast, 128 ≤ x.toNat := by
  induction v using Nat.strongRecOn with
  | _ v ih =>
    by_cases h : v < 128
    · rw [vput_lt h]; intro x hx; cases hx
    · rw [vput_ge (by omega)]
      have hne : vput (v / 128) ≠ [] := by have := vput_pos (v / 128); intro e; rw [e] at this; simp at this
      rw [List.dropLast_cons_of_ne_nil hne]
      intro x hx
      rcases List.mem_cons.1 hx with rfl | hx
      · simp; omega
      · exact ih _ (by omega) x hx
theorem vget_cut (v : Nat) (hv : v < 18446744073709551616) : vget (vput v).dropLast = (0, 0, 8) := by
  have hl := vput_len 9 v (by omega)
  obtain ⟨acc, e⟩ := vget_high (vput v).dropLast [] 0 0 (vput_high v) (by simp; omega)
  rw [List.append_nil] at e
  rw [vget, e]; rfl
end Go.Shr
namespace Go.Proofs.Ytklimbadankdkaa
open Go.RowKit Go.Shr
set_option maxHeartbeats 1600000 in
set_option maxRecDepth 100000 in
theorem law_reads (a : Option Addr) (n cap : Nat) (bs : List UInt8) (m last : Int) (w : World) (hl : Sl (fun b => b < w.heap.size) w 1 a n cap (u8s bs)) (_ : (Lit.int .i64 m).wf = true) (hlast : (Lit.int .u8 last).wf = true) :
    Calls Try.prog 7 #[.slice a n cap, .int .i64 m, .int .u8 last] w fun e w' => e = .returned (.bool true) ∧ Below w.heap.size w w' := by
  obtain ⟨i0, hi, hz0, hz1, hz2⟩ := info_parts info_u8
  have hmax := hl.max
  have hle := hl.le
  unfold maxLen at hmax
  have HL := Lib.hid hl; clear hl
  have hlast := wf_u8 hlast
  have hlen : bs.length = n := by have := HL.out.len; simpa using this
  have HN := Lib.hid hlen; clear hlen
  obtain ⟨d, hd⟩ : ∃ d : Nat, m % 13 = (d : Int) := ⟨(m % 13).toNat, by omega⟩
  have hd13 : d < 13 := by omega
  have HD := Lib.hid hd; clear hd
  have tok1 : True := trivial
  by_cases hbig : 50 < n
  · go_enter Try.func7, Try.ntmps7
    go_wp2_with fail
    refine (known_any w).mono ?_
    rintro e w1 ⟨rfl, hb1⟩
    go_wp2
    go_ret
    exact ⟨rfl, hb1⟩
  · have hdec : decide ((50 : Int) < (n : Int)) = false := decide_eq_false (by omega)
    go_enter Try.func7, Try.ntmps7
    go_wp2_with fail
    refine (known_any w).mono ?_
    rintro e w1 ⟨rfl, hb1⟩
    go_wp2_with fail
    refine (within_i m 13 w1 (by decide) (by decide)).mono ?_
    rintro e w2 ⟨rfl, rfl⟩
    rw [HD.out]
    have hsz1 := hb1.size
    go_wp2_with (at_make; refine wpList_make rfl _ _ _ rfl w.heap.size _ i0 (.int .u8 0) 1 Try.underlying26 hi hz0 hz1 .i64 .i64 _ _ d rfl rfl rfl rfl (by rw [hz2]; omega) (by simp only [maxLen]; omega) hsz1 ?_; intro w2 hown hchg; have HO := Lib.hid hown; clear hown; have hb2 := hb1.trans (hchg.below hsz1 (fun _ _ h => h)); clear hchg)
    have HO' : Hid (Own w.heap.size w2 5 1 (some ⟨w1.heap.size, 0, none⟩) d d (u8s (List.replicate d 0))) := Lib.hid (by
      have h := HO.out
      rw [Nat.mul_one, show (Value.int IntKind.u8 0).cells = #[.int .u8 0] from rfl, toList_madeCells_one, show ((0 : Int)) = ((0 : Nat) : Int) from rfl, u8s_rep _ 0 (by decide)] at h
      exact h)
    clear HO
    obtain ⟨g, hg⟩ : ∃ g, w1.heap.size = g := ⟨_, rfl⟩
    rw [hg] at HO' hsz1 ⊢
    clear hg hb1
    go_loopw [8] (fun i wr => ∃ (k : Nat) (xs : List UInt8), i = .int .i64 k ∧ k ≤ d ∧ Hid (Own w.heap.size wr 5 1 (some ⟨g, 0, none⟩) d d (u8s xs)) ∧ Below w.heap.size w wr)
      (fun i _ => d - (intOf i).toNat)
    case atStart => exact ⟨0, _, rfl, Nat.zero_le _, HO', hb2⟩
    case round =>
      clear HO' hb2
      obtain ⟨k, xs, rfl, hk, HO, hb⟩ := hrel
      by_cases hlt : k < d
      · obtain ⟨g', hg', hgB, hgs, hc, hfz⟩ := HO.out.pos (by omega)
        cases hg'
        have hxl : xs.length = d := by have := HO.out.len; simpa using this
        have hc1 := hc k _ (u8s_get xs k (by omega))
        have hf1 := hfz k
        clear hc hfz
        by_cases hkn : k < n
        · obtain ⟨b, off, rfl, hb0, hc0⟩ := HL.out.pos (by omega)
          have hcb := hc0 k _ (u8s_get bs k (by rw [HN.out]; omega))
          have hcb2 : wr.cell? ⟨b, off + k, none⟩ = _ := (hb.cell (p := ⟨b, off + k, none⟩) hb0).trans hcb
          clear hc0 hcb
          have hkb : k < bs.length := by rw [HN.out]; omega
          generalize bs[k] = x at *
          have hor := or128_u8 x
          have hne : ¬ b = g := by omega
          have R : Own w.heap.size ((wr.setCell ⟨g, k, none⟩ (.int .u8 128)).setCell ⟨g, k, none⟩ (.int .u8 ((x.toNat : Int) % 128 + 128))) 5 1 (some ⟨g, 0, none⟩) d d (u8s ((xs.set k 128).set k (UInt8.ofNat (x.toNat % 128 + 128)))) := by
            have h := (HO.out.stored rfl k (.int .u8 ((128 : Nat) : Int))).stored rfl k (.int .u8 ((x.toNat % 128 + 128 : Nat) : Int))
            rw [u8s_set _ _ _ (by decide), u8s_set _ _ _ (by omega)] at h
            exact h
          have HR := Lib.hid R; clear R
          go_wp2
          go_roundw
          case rel => exact ⟨k + 1, _, by go_num, by omega, HR, (hb.setCell hgB _).setCell hgB _⟩
          case measure => simp [intOf]; omega
        · have R : Own w.heap.size (wr.setCell ⟨g, k, none⟩ (.int .u8 128)) 5 1 (some ⟨g, 0, none⟩) d d (u8s (xs.set k 128)) := by
            have h := HO.out.stored rfl k (.int .u8 ((128 : Nat) : Int))
            rw [u8s_set _ _ _ (by decide)] at h
            exact h
          have HR := Lib.hid R; clear R
          go_wp2
          go_roundw
          case rel => exact ⟨k + 1, _, by go_num, by omega, HR, hb.setCell hgB _⟩
          case measure => simp [intOf]; omega
      · obtain rfl : k = d := by omega
        have hdec2 : decide (k < k) = false := decide_eq_false (by omega)
        have hsz2 := hb.size
        have tA1 : True := trivial
        have tA2 : True := trivial
        have tB1 : True := trivial
        have tB2 : True := trivial
        have hgl : k = 0 ∨ g < wr.heap.size := by
          by_cases h0 : k = 0
          · exact .inl h0
          · obtain ⟨g', hg', _, hgs, _⟩ := HO.out.pos (by omega)
            cases hg'; exact .inr hgs
        have hS0 : Sl (fun b => b < wr.heap.size) wr 1 (some ⟨g, 0, none⟩) k k (u8s xs) := HO.out.sl.mono (fun _ h _ => h) (by decide)
        have HS0 := Lib.hid hS0; clear hS0 hgl
        have hsrc1 := (HS0.out.alloc (.cells #[] 5)).src (P := Try.prog) (tx := 26) Try.underlying26 (u8s_one _)
        have HSRC1 := Lib.hid hsrc1; clear hsrc1
        have hln : xs.length = k := by have := HS0.out.len; simpa using this
        have HXL := Lib.hid hln; clear hln
        go_wp2_with (first
          | (at_builtin; have _t := tA1; clear tA1; clear _t; refine wpList_fresh (B := wr.heap.size) rfl _ _ _ _ rfl i0 (.int .u8 0) 1 Try.underlying26 hi hz0 hz1 hz2 rfl rfl _ rfl _ _ (HSRC1.out) (by simp only [maxLen]; omega) (by omega) (by first | omega | (simp; omega) | simp) ?_; intro a3 cap3 w3 hown3 hchg3 hnew3; have hb3 : Below wr.heap.size wr w3 := ((Below.refl _ _).alloc (Nat.le_refl _) _).trans (hchg3.mono (by simp)); have hsz3 := hb3.size; have HO3 := Lib.hid hown3; clear hown3 hchg3 hnew3)
          | (at_builtin; have _t := tB1; clear tB1; clear _t; refine wpList_append (B := wr.heap.size) rfl _ _ _ _ rfl i0 (.int .u8 0) 1 Try.underlying26 hi hz0 hz1 hz2 rfl rfl (HO3.out.alloc _) _ rfl _ _ (src_one Try.underlying26 w3 _ _ rfl) (by simp only [maxLen]; omega) (by omega) (by first | omega | (simp; omega) | simp) ?_; intro a4 cap4 w4 hown4 hchg4 hnew4; have hb4 : Below wr.heap.size wr w4 := (hb3.alloc hsz3 _).trans (hchg4.below (by simp; omega) (fun i hi h => by omega)); have hsz4 := hb4.size; have HO4 := Lib.hid hown4; clear hown4 hchg4 hnew4; have hsrc2 := ((HS0.out.below hb4).alloc (.cells #[] 5)).src (P := Try.prog) (tx := 26) Try.underlying26 (u8s_one _); have HSRC2 := Lib.hid hsrc2; clear hsrc2)
          | (at_builtin; have _t := tA2; clear tA2; clear _t; refine wpList_fresh (B := w4.heap.size) rfl _ _ _ _ rfl i0 (.int .u8 0) 1 Try.underlying26 hi hz0 hz1 hz2 rfl rfl _ rfl _ _ (HSRC2.out) (by simp only [maxLen]; omega) (by omega) (by first | omega | (simp; omega) | simp) ?_; intro a5 cap5 w5 hown5 hchg5 hnew5; have hb5 : Below w4.heap.size w4 w5 := ((Below.refl _ _).alloc (Nat.le_refl _) _).trans (hchg5.mono (by simp)); have hsz5 := hb5.size; have HO5 := Lib.hid hown5; clear hown5 hchg5 hnew5)
          | (at_builtin; have _t := tB2; clear tB2; clear _t; refine wpList_append (B := w4.heap.size) rfl _ _ _ _ rfl i0 (.int .u8 0) 1 Try.underlying26 hi hz0 hz1 hz2 rfl rfl (HO5.out.alloc _) _ rfl _ _ (src_one Try.underlying26 w5 _ _ rfl) (by simp only [maxLen]; omega) (by omega) (by first | omega | (simp; omega) | simp) ?_; intro a6 cap6 w6 hown6 hchg6 hnew6; have hb6 : Below w4.heap.size w4 w6 := (hb5.alloc hsz5 _).trans (hchg6.below (by simp; omega) (fun i hi h => by omega)); have hsz6 := hb6.size; have HO6 := Lib.hid hown6; clear hown6 hchg6 hnew6))
        have hb46 : Below wr.heap.size wr w6 := hb4.trans (hb6.mono hsz4)
        have hlt4 : u8s xs ++ [.int .u8 last] = u8s (xs ++ [UInt8.ofNat last.toNat]) := by
          have e : last = ((last.toNat : Nat) : Int) := by omega
          rw [← u8s_snoc _ _ (by omega), ← e]
        have hlt6 : u8s xs ++ [.int .u8 0] = u8s (xs ++ [UInt8.ofNat 0]) := (u8s_snoc xs 0 (by decide)).symm ▸ rfl
        have S0 : Sl (fun b => b < w6.heap.size) w6 1 a n cap (u8s bs) := ((HL.out.below (hb.trans (hb46.mono hsz2))).mono (fun _ h _ => h) (by decide))
        have S1 : Sl (fun b => b < w6.heap.size) w6 1 a4 (k + 1) cap4 (u8s (xs ++ [UInt8.ofNat last.toNat])) := by
          have h := (HO4.out.sl.below hb6).mono (ok' := fun b => b < w6.heap.size) (fun _ h _ => h) (by decide)
          rwa [hlt4] at h
        have S2 : Sl (fun b => b < w6.heap.size) w6 1 (some ⟨g, 0, none⟩) k k (u8s xs) := (HS0.out.below hb46).mono (fun _ h _ => h) (by decide)
        have S3 : Sl (fun b => b < w6.heap.size) w6 1 a6 (k + 1) cap6 (u8s (xs ++ [UInt8.ofNat 0])) := by
          have h := HO6.out.sl.mono (ok' := fun b => b < w6.heap.size) (fun _ h _ => h) (by decide)
          rwa [hlt6] at h
        have hrows : ∀ i, i < 4 → ∃ ar nr cr ys, (w6.alloc (.cells #[.slice a n cap, .slice a4 (k + 1) cap4, .slice (some ⟨g, 0, none⟩) k k, .slice a6 (k + 1) cap6] 26)).cell? ⟨w6.heap.size, i, none⟩ = some (.slice ar nr cr) ∧ Hid (Sl (fun b => b < w6.heap.size) w6 1 ar nr cr (u8s ys)) ∧ nr ≤ 100 := by
          intro i hi
          match i, hi with
          | 0, _ => exact ⟨_, _, _, _, by simp, Lib.hid S0, by omega⟩
          | 1, _ => exact ⟨_, _, _, _, by simp, Lib.hid S1, by omega⟩
          | 2, _ => exact ⟨_, _, _, _, by simp, Lib.hid S2, by omega⟩
          | 3, _ => exact ⟨_, _, _, _, by simp, Lib.hid S3, by omega⟩
        clear S0 S1 S2 S3 hlt4 hlt6
        have hbW : Below w.heap.size w (w6.alloc (.cells #[.slice a n cap, .slice a4 (k + 1) cap4, .slice (some ⟨g, 0, none⟩) k k, .slice a6 (k + 1) cap6] 26)) := (hb.trans (hb46.mono hsz2)).alloc (by omega) _
        have hW6 : Below w6.heap.size w6 (w6.alloc (.cells #[.slice a n cap, .slice a4 (k + 1) cap4, .slice (some ⟨g, 0, none⟩) k k, .slice a6 (k + 1) cap6] 26)) := (Below.refl _ _).alloc (Nat.le_refl _) _
        have hszW : w6.heap.size < (w6.alloc (.cells #[.slice a n cap, .slice a4 (k + 1) cap4, .slice (some ⟨g, 0, none⟩) k k, .slice a6 (k + 1) cap6] 26)).heap.size := by simp
        generalize (w6.alloc (.cells #[.slice a n cap, .slice a4 (k + 1) cap4, .slice (some ⟨g, 0, none⟩) k k, .slice a6 (k + 1) cap6] 26)) = W0 at *
        have HR := Lib.hid hrows; clear hrows
        clear HO3 HO4 HO5 HO6 hb3 hb4 hb5 hb6 hb46 hb hsz3 hsz4 hsz5 HS0 HSRC1 HSRC2 HO
        go_loopw [10] (fun i wr => ∃ q : Nat, i = .int .i64 q ∧ q ≤ 4 ∧ Below W0.heap.size W0 wr) (fun i _ => 4 - (intOf i).toNat)
        case atStart => exact ⟨0, rfl, by omega, Below.refl _ _⟩
        case round =>
          obtain ⟨q, rfl, hq, hbq⟩ := hrel
          have hszq := hbq.size
          by_cases hq4 : q < 4
          · obtain ⟨ar, nr, cr, ys, hcr, HSr, hnr⟩ := HR.out q hq4
            have hcq : wr.cell? ⟨w6.heap.size, q, none⟩ = some (.slice ar nr cr) := (hbq.cell (p := ⟨w6.heap.size, q, none⟩) hszW).trans hcr
            have HSq := Lib.hid ((HSr.out.below hW6).mono (ok' := fun b => b < W0.heap.size) (fun _ h _ => h) (by decide))
            have HSq2 := Lib.hid (HSq.out.below hbq)
            have hsq := (HSq2.out.alloc (.cells #[] 5)).src (P := Try.prog) (tx := 26) Try.underlying26 (u8s_one _)
            have HSRC := Lib.hid hsq; clear hsq hcr
            have hcqa : ∀ o, (wr.alloc o).cell? ⟨w6.heap.size, q, none⟩ = some (.slice ar nr cr) := fun o => (Below.cell ((Below.refl wr.heap.size wr).alloc (Nat.le_refl _) o) (p := ⟨w6.heap.size, q, none⟩) (by show w6.heap.size < _; omega)).trans hcq
            have tC : True := trivial
            go_wp2_with (first
              | (at_builtin; have _t := tC; clear tC; clear _t; refine wpList_fresh (B := wr.heap.size) rfl _ _ _ _ rfl i0 (.int .u8 0) 1 Try.underlying26 hi hz0 hz1 hz2 rfl rfl _ rfl _ _ (HSRC.out) (by simp only [maxLen]; omega) (by omega) (by first | omega | (simp; omega) | simp) ?_; intro a7 cap7 w7 hown7 hchg7 hnew7; have hb7 : Below wr.heap.size wr w7 := ((Below.refl _ _).alloc (Nat.le_refl _) _).trans (hchg7.mono (by simp)); have hsz7 := hb7.size; have HO7 := Lib.hid hown7; clear hown7 hchg7 hnew7)
              | fail)
            refine (get_u8 _ a7 nr cap7 ys w7 HO7.out.sl (by omega)).mono ?_
            rintro e w8 ⟨rfl, rfl⟩
            have hcq2 : w7.cell? ⟨w6.heap.size, q, none⟩ = some (.slice ar nr cr) := (hb7.cell (p := ⟨w6.heap.size, q, none⟩) (by show w6.heap.size < _; omega)).trans hcq
            go_wp2_with fail
            refine (rget_u8 _ ar nr cr ys w7 (HSq2.out.below hb7) (by omega)).mono ?_
            rintro e w8 ⟨rfl, rfl⟩
            go_wp2
            go_roundw
            case rel => exact ⟨q + 1, by go_num, by omega, hbq.trans (hb7.mono hszq)⟩
            case measure => simp [intOf]; omega
          · go_wp2
            go_ret
            exact ⟨rfl, hbW.trans (hbq.mono hbW.size)⟩
end Go.Proofs.Ytklimbadankdkaa
