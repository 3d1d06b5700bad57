/-
  The walk of VarintBad.
-/
import Derived.Test.YtklimbadankdkaaReads3
import Derived.Deep.CutRange
import Derived.Deep.CutBlock
namespace Go.Shr
/-- How long a slice is. -/
def lenS : Value → Nat | .slice _ n _ => n | _ => 0
theorem vget_zero (l : List UInt8) (h : ∀ x ∈ l, 128 ≤ x.toNat) (h0 : 0 < l.length) (h9 : l.length ≤ 9) : vget (l ++ [0]) = (0, 0, 10) := by
  obtain ⟨acc, e⟩ := vget_high l [0] 0 0 h (by omega)
  rw [vget, e]
  have hz : (0 : UInt8).toNat = 0 := rfl
  simp only [vgetFrom, hz]
  rw [if_neg (by omega), if_pos (by omega), if_pos ⟨trivial, by omega⟩]
theorem vget_none (l : List UInt8) (h : ∀ x ∈ l, 128 ≤ x.toNat) (h9 : l.length ≤ 9) : vget l = (0, 0, 8) := by
  obtain ⟨acc, e⟩ := vget_high l [] 0 0 h (by omega)
  rw [List.append_nil] at e
  rw [vget, e]; rfl
theorem vget_ten (y : UInt8) (hy : 1 < y.toNat) : vget [128, 128, 128, 128, 128, 128, 128, 128, 128, y] = (0, 0, 14) := by
  obtain ⟨acc, e⟩ := vget_high [128, 128, 128, 128, 128, 128, 128, 128, 128] [y] 0 0 (by decide) (by decide)
  show vgetFrom 0 0 ([128, 128, 128, 128, 128, 128, 128, 128, 128] ++ [y]) = _
  rw [e]
  show vgetFrom 9 acc [y] = _
  rw [vgetFrom, if_pos ⟨rfl, hy⟩]
/-- A varint whose last byte says that more come. -/
theorem vput_set (v : Nat) : ∀ x ∈ (vput v).set ((vput v).length - 1) (UInt8.ofNat (((vput v).getD ((vput v).length - 1) 0).toNat % 128 + 128)), 128 ≤ x.toNat := by
  have e : vput v = (vput v).dropLast ++ [(vput v).getD ((vput v).length - 1) 0] := by
    have hp := vput_pos v
    have h1 := List.dropLast_concat_getLast (l := vput v) (by intro h; rw [h] at hp; simp at hp)
    rw [List.getLast_eq_getElem] at h1
    conv => lhs; rw [← h1]
    simp [List.getD, show (vput v).length - 1 < (vput v).length by omega]
  intro x hx
  rw [e] at hx
  have hl : ((vput v).dropLast ++ [(vput v).getD ((vput v).length - 1) 0]).length - 1 = (vput v).dropLast.length := by simp
  rw [hl, List.set_append_right _ _ (Nat.le_refl _), Nat.sub_self, List.set_cons_zero] at hx
  rcases List.mem_append.1 hx with hx | hx
  · exact vput_high v x hx
  · simp only [List.mem_singleton] at hx
    subst hx
    simp; omega
end Go.Shr
namespace Go.Proofs.Ytklimbadankdkaa
open Go.RowKit Go.Shr
set_option maxHeartbeats 1600000 in
set_option maxRecDepth 100000 in
theorem law_bad (v n last : Int) (w : World) (hv : (Lit.int .u64 v).wf = true) (_ : (Lit.int .i64 n).wf = true) (hlast : (Lit.int .u8 last).wf = true) :
    Calls Try.prog 9 #[.int .u64 v, .int .i64 n, .int .u8 last] w fun e w' => e = .returned (.bool true) ∧ Below w.heap.size w w' := by
  obtain ⟨i0, hi, hz0, hz1, hz2⟩ := info_parts info_u8
  have hV := Lib.hid (wf_u64 hv)
  have hlast := wf_u8 hlast
  clear hv
  obtain ⟨d3, hd3⟩ : ∃ d : Nat, n % 3 = (d : Int) := ⟨(n % 3).toNat, by omega⟩
  obtain ⟨d4, hd4⟩ : ∃ d : Nat, n % 4 = (d : Int) := ⟨(n % 4).toNat, by omega⟩
  have h3 : d3 < 3 := by omega
  have h4 : d4 < 4 := by omega
  have HD3 := Lib.hid hd3; have HD4 := Lib.hid hd4; clear hd3 hd4
  have hx0 : 0 ≤ v / 256 := by have := hV.out; omega
  have hlen : (vput (v / 256).toNat).length ≤ 8 := vput_len 7 _ (by have := hV.out; omega)
  have hpos := vput_pos (v / 256).toNat
  have HSET := Lib.hid (vput_set (v / 256).toNat)
  generalize hL : vput (v / 256).toNat = bs at *
  have HL := Lib.hid hL; clear hL
  generalize hLL : bs.length = L at *
  have HLL := Lib.hid hLL; clear hLL
  have hdec8 : decide ((8 : Int) < (L : Int)) = false := decide_eq_false (by omega)
  go_enter Try.func9, Try.ntmps9
  go_wp2_with fail
  refine (known_any w).mono ?_
  rintro e w1 ⟨rfl, hb1⟩
  go_wp2_with fail
  refine (put_nil (v / 256) w1 (by omega) (Lib.hid (by have := hV.out; omega))).mono ?_
  rintro e w2 ⟨a2, cap2, rfl, hown2, hb2⟩
  rw [HL.out, HLL.out] at hown2 ⊢
  obtain ⟨g, rfl, hgB, hgs, hc, hf⟩ := hown2.out.pos hpos
  have hc1 := hc (L - 1) _ (u8s_get bs (L - 1) (by rw [HLL.out]; omega))
  have hf1 := hf (L - 1)
  clear hc hf
  have hLL1 : L - 1 < bs.length := by rw [HLL.out]; omega
  have hor := or128_u8 bs[L - 1]
  have HX : Hid (bs.getD (L - 1) 0 = bs[L - 1]) := Lib.hid (by simp [List.getD, hLL1])
  generalize bs[L - 1] = x at *
  have e1 : ((L : Int) - 1).toNat = L - 1 := by omega
  have e2 : (((L - 1 : Nat)) : Int) = (L : Int) - 1 := by omega
  have hsz1 := hb1.size
  have hsz2 := hb2.size
  have hbs : Own w1.heap.size (w2.setCell ⟨g, L - 1, none⟩ (.int .u8 ((x.toNat : Int) % 128 + 128))) 5 1 (some ⟨g, 0, none⟩) L cap2 (u8s (bs.set (L - 1) (UInt8.ofNat (x.toNat % 128 + 128)))) := by
    have h := hown2.out.stored rfl (L - 1) (.int .u8 ((x.toNat % 128 + 128 : Nat) : Int))
    rw [u8s_set _ _ _ (by omega)] at h
    exact h
  rw [HX.out] at HSET
  have hls : (bs.set (L - 1) (UInt8.ofNat (x.toNat % 128 + 128))).length = L := by rw [List.length_set]; exact HLL.out
  generalize bs.set (L - 1) (UInt8.ofNat (x.toNat % 128 + 128)) = ys at *
  have HLS := Lib.hid hls; clear hls
  have hbw : Below w.heap.size w (w2.setCell ⟨g, L - 1, none⟩ (.int .u8 ((x.toNat : Int) % 128 + 128))) := (hb1.trans (hb2.mono hsz1)).setCell (p := ⟨g, L - 1, none⟩) (by show _ ≤ g; omega) _
  have HBW := Lib.hid hbw; clear hbw
  have HBS := Lib.hid hbs; clear hbs
  obtain ⟨W1, hW1⟩ : ∃ W1, w2.setCell ⟨g, L - 1, none⟩ (.int .u8 ((x.toNat : Int) % 128 + 128)) = W1 := ⟨_, rfl⟩
  have HW1 := Lib.hid hW1
  rw [hW1] at HBW HBS
  clear hW1
  have hszW : w2.heap.size = W1.heap.size := by rw [← HW1.out]; simp
  have hsrc := ((HBS.out.sl).alloc (.cells #[] 5)).src (P := Try.prog) (tx := 26) Try.underlying26 (u8s_one _)
  rw [← HW1.out] at hsrc
  have HSRC := Lib.hid hsrc; clear hsrc
  have hgW : w1.heap.size ≤ g ∧ g < w2.heap.size := ⟨hgB, hgs⟩
  clear hown2 hb1 hb2 HX
  have HSZ := Lib.hid hszW; clear hszW
  have tA : True := trivial
  go_upto_block 0 with (first
    | (at_builtin; have _t := tA; clear tA; clear _t; refine wpList_fresh (B := w2.heap.size) rfl _ _ _ _ rfl i0 (.int .u8 0) 1 Try.underlying26 hi hz0 hz1 hz2 rfl rfl _ rfl _ _ (HSRC.out) (by simp only [maxLen]; omega) (by omega) (by first | omega | (simp; omega) | simp) ?_; intro a3 cap3 w3 hown3 hb3 hnew3; have hb3' : Below w2.heap.size (w2.setCell ⟨g, L - 1, none⟩ (.int .u8 ((x.toNat : Int) % 128 + 128))) w3 := ((Below.refl _ _).alloc (by simp) _).trans (hb3.mono (by simp)); have HB3 := Lib.hid hb3'; have HO3 := Lib.hid hown3; clear hown3 hb3 hnew3 hb3')
    | fail)
  go_cut [8] from 43 to 63 (fun xv wc => ∃ (j : Nat) (ar : Option Addr) (capr : Nat), xv = .slice ar (L + j) capr ∧ L + j ≤ 9 ∧ Hid (Own w2.heap.size wc 5 1 ar (L + j) capr (u8s (ys ++ List.replicate j 128))) ∧ Below w2.heap.size (w2.setCell ⟨g, L - 1, none⟩ (.int .u8 ((x.toNat : Int) % 128 + 128))) wc)
  case first =>
    go_wp2_with fail
    go_loopw [8] (fun xv wr => ∃ (j : Nat) (ar : Option Addr) (capr : Nat), xv = .slice ar (L + j) capr ∧ L + j ≤ 9 ∧ Hid (Own w2.heap.size wr 5 1 ar (L + j) capr (u8s (ys ++ List.replicate j 128))) ∧ Below w2.heap.size (w2.setCell ⟨g, L - 1, none⟩ (.int .u8 ((x.toNat : Int) % 128 + 128))) wr)
      (fun xv _ => 9 - lenS xv)
    case atStart => exact ⟨0, a3, cap3, rfl, by omega, Lib.hid (by simpa using HO3.out), HB3.out⟩
    case round =>
      obtain ⟨j, ar, capr, rfl, hj, HO, hb⟩ := hrel
      have hszr := hb.size
      simp only [World.size_setCell] at hszr
      have HOA := Lib.hid (fun o => HO.out.alloc o)
      have tB : True := trivial
      have hexit : ∀ (P' : Prop), (Hid (Own w2.heap.size wr 5 1 ar (L + j) capr (u8s (ys ++ List.replicate j 128))) → P') → P' := fun _ h => h HO
      clear hexit
      by_cases h9 : L + j < 9
      · by_cases hd : 0 < d3
        · by_cases hl : j < d4
          · go_wp2_with fail
            refine (within_i n 3 wr (by decide) (by decide)).mono ?_
            rintro e w4 ⟨rfl, rfl⟩
            rw [HD3.out]
            go_wp2_with fail
            refine (within_i n 4 wr (by decide) (by decide)).mono ?_
            rintro e w4 ⟨rfl, rfl⟩
            rw [HD4.out]
            go_wp2_with (first
              | (at_builtin; have _t := tB; clear tB; clear _t; refine wpList_append (B := w2.heap.size) rfl _ _ _ _ rfl i0 (.int .u8 0) 1 Try.underlying26 hi hz0 hz1 hz2 rfl rfl (HOA.out _) _ rfl _ _ (src_one Try.underlying26 wr _ _ rfl) (by simp only [maxLen]; omega) (by omega) (by first | omega | (simp; omega) | simp) ?_; intro a5 cap5 w5 hown5 hchg5 hnew5; have hb5 := (hb.alloc hszr _).trans (hchg5.below (by simp; omega) (fun i hi h => by omega)); have HB5 := Lib.hid hb5; have HO5 := Lib.hid hown5; clear hown5 hchg5 hnew5 hb5)
              | fail)
            go_roundw
            case rel => exact ⟨j + 1, a5, cap5, rfl, by omega, Lib.hid (by
              have h := HO5.out
              rw [show (Value.int IntKind.u8 128) = .int .u8 ((128 : Nat) : Int) from rfl, u8s_snoc _ _ (by decide), List.append_assoc] at h
              rw [List.replicate_succ']; exact h), HB5.out⟩
            case measure => simp [lenS]; omega
          · go_wp2_with fail
            refine (within_i n 3 wr (by decide) (by decide)).mono ?_
            rintro e w4 ⟨rfl, rfl⟩
            rw [HD3.out]
            go_wp2_with fail
            refine (within_i n 4 wr (by decide) (by decide)).mono ?_
            rintro e w4 ⟨rfl, rfl⟩
            rw [HD4.out]
            go_wp2
            go_meet
            case rel => exact ⟨j, ar, capr, rfl, hj, HO, hb⟩
        · go_wp2_with fail
          refine (within_i n 3 wr (by decide) (by decide)).mono ?_
          rintro e w4 ⟨rfl, rfl⟩
          rw [HD3.out]
          go_wp2
          go_meet
          case rel => exact ⟨j, ar, capr, rfl, hj, HO, hb⟩
      · go_wp2
        go_meet
        case rel => exact ⟨j, ar, capr, rfl, hj, HO, hb⟩
  case rest =>
    obtain ⟨j, ar, capr, rfl, hj, HO, hb⟩ := hcut
    have hszr := hb.size
    simp only [World.size_setCell] at hszr
    have hhigh : ∀ y ∈ ys ++ List.replicate j 128, 128 ≤ y.toNat := by
      intro y hy
      rcases List.mem_append.1 hy with hy | hy
      · exact HSET.out y hy
      · rw [List.eq_of_mem_replicate hy]; decide
    have hlen9 : (ys ++ List.replicate j (128 : UInt8)).length = L + j := by rw [List.length_append, HLS.out, List.length_replicate]
    have HG1 := Lib.hid (vget_zero (ys ++ List.replicate j 128) hhigh (by omega) (by omega))
    have HG3 := Lib.hid (vget_none ys HSET.out (by rw [HLS.out]; omega))
    have HOA := Lib.hid (fun o => HO.out.alloc o)
    clear hhigh hlen9
    have hb' : Below w2.heap.size W1 wc := by rw [← HW1.out]; exact hb
    have HBC := Lib.hid hb'; clear hb hb'
    have tB : True := trivial
    go_wp2_with (first
      | (at_builtin; have _t := tB; clear tB; clear _t; refine wpList_append (B := w2.heap.size) rfl _ _ _ _ rfl i0 (.int .u8 0) 1 Try.underlying26 hi hz0 hz1 hz2 rfl rfl (HOA.out _) _ rfl _ _ (src_one Try.underlying26 wc _ _ rfl) (by simp only [maxLen]; omega) (by omega) (by first | omega | (simp; omega) | simp) ?_; intro a6 cap6 w6 hown6 hchg6 hnew6; have hb6 := (HBC.out.alloc hszr _).trans (hchg6.below (by simp; omega) (fun i hi h => by omega)); have HB6' := Lib.hid hb6; have HO6 := Lib.hid hown6; clear hown6 hchg6 hnew6 hb6)
      | (go_at_call 18; refine (get_u8 _ a6 (L + j + 1) cap6 (ys ++ List.replicate j 128 ++ [0]) w6 (by have h := HO6.out; rw [show (Value.int IntKind.u8 0) = .int .u8 ((0 : Nat) : Int) from rfl, u8s_snoc _ _ (by decide)] at h; exact h.sl) (by omega)).mono ?_))
    rintro e w7 ⟨rfl, rfl⟩
    rw [HG1.out]
    go_wp2_with fail
    obtain ⟨y, hy⟩ : ∃ y : UInt8, (y.toNat : Int) = 2 + last % 254 := ⟨UInt8.ofNat (2 + last % 254).toNat, by rw [UInt8.toNat_ofNat']; omega⟩
    have HY := Lib.hid hy; clear hy
    have hten : Own w6.heap.size (w6.alloc (.cells #[.int .u8 128, .int .u8 128, .int .u8 128, .int .u8 128, .int .u8 128, .int .u8 128, .int .u8 128, .int .u8 128, .int .u8 128, .int .u8 (2 + last % 254)] 5)) 5 1 (some ⟨w6.heap.size, 0, none⟩) 10 10 (u8s [128, 128, 128, 128, 128, 128, 128, 128, 128, y]) := by
      have h := Own.new (B := w6.heap.size) (e := 5) (size := 1) w6 #[.int .u8 128, .int .u8 128, .int .u8 128, .int .u8 128, .int .u8 128, .int .u8 128, .int .u8 128, .int .u8 128, .int .u8 128, .int .u8 (2 + last % 254)] 10 (Nat.le_refl _) (by simp only [maxLen]; omega) rfl
      have e : u8s [128, 128, 128, 128, 128, 128, 128, 128, 128, y] = [.int .u8 128, .int .u8 128, .int .u8 128, .int .u8 128, .int .u8 128, .int .u8 128, .int .u8 128, .int .u8 128, .int .u8 128, .int .u8 (2 + last % 254)] := by
        rw [← HY.out]; rfl
      rw [e]; exact h
    have HT := Lib.hid hten; clear hten
    refine (get_u8 _ (some ⟨w6.heap.size, 0, none⟩) 10 10 _ _ HT.out.sl (by omega)).mono ?_
    rintro e w7 ⟨rfl, rfl⟩
    rw [vget_ten y (by have := HY.out; omega)]
    go_wp2_with fail
    have hb7 : Below w2.heap.size W1 (w6.alloc (.cells #[.int .u8 128, .int .u8 128, .int .u8 128, .int .u8 128, .int .u8 128, .int .u8 128, .int .u8 128, .int .u8 128, .int .u8 128, .int .u8 (2 + last % 254)] 5)) := HB6'.out.alloc (by have h1 := HB6'.out.size; have h2 := HSZ.out; omega) _
    have HB7 := Lib.hid hb7; clear hb7
    refine (get_u8 _ (some ⟨g, 0, none⟩) L cap2 ys _ ((HBS.out.sl).below (HB7.out.mono (by have := HSZ.out; omega))) (by omega)).mono ?_
    rintro e w8 ⟨rfl, rfl⟩
    rw [HG3.out]
    go_wp2
    go_ret
    exact ⟨rfl, HBW.out.trans (HB7.out.mono (by omega))⟩
end Go.Proofs.Ytklimbadankdkaa
