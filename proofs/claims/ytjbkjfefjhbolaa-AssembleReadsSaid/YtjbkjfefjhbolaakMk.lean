import Derived.Test.YtjbkjfefjhbolaakTrG
import Derived.Test.YtjbkjfefjhbolaakRegR
import Derived.Deep.CutBlock
import Derived.Laws.IdiomStrings
import Derived.IntWalk
set_option linter.all false
open List renaming foldl_cons → zLP, foldl_nil → zLQ, getElem?_eq_some_iff → zLR, eq_nil_of_length_eq_zero → zLU, length_append → zLV, length_cons → zLX, getElem?_cons_succ → zLY, getElem?_cons_zero → zLZ
open Int renaming emod_lt_of_pos → zLS, emod_nonneg → zLT, tdiv_eq_ediv_of_nonneg → zLW
open Nat renaming le_refl → zL0
namespace Go.Proofs.Ytjbkjfefjhbolaa
open Go.RowKit Go.Shr
theorem zK2 : (Try.prog.info? 62).map (fun i => (i.zero, i.size, i.bytes)) = some (some (.agg #[.string ByteArray.empty, .int .i64 0, .int .i64 0, .int .i64 0]), 4, 40) := by kernel_rfl
theorem zDG (a n : Int) (w : World) (hn : 0 < n) (hn2 : n ≤ 1000000) : Calls Try.prog 22 #[.int .i64 a, .int .i64 n] w fun e w' => e = .returned (.int .i64 (a % n)) ∧ w = w' := by
  have h1 := Int.tmod_lt_of_pos a hn
  have h3 : -n < a.tmod n := by
    have := Int.lt_tmod_of_pos a hn
    omega
  have H := zH (zDH a n hn)
  go_enter Try.func22, Try.ntmps22
  go_wp2
  · go_ret
    exact ⟨zX (H.out.1 (by assumption)), rfl⟩
  · go_ret
    exact ⟨zX (H.out.2 (by assumption)), rfl⟩
theorem zJg (w : World) (b j : Nat) (hj : j ≤ 12) (hr : w.cell? ⟨b, 0, none⟩ = some (.int .u8 (IntKind.u8.wrap (IntKind.i64.wrap (97 + (j : Int)))))) :
    (convert 65 9 (.slice (some ⟨b, 0, none⟩) 1 1)).run Try.prog w = .ok (.string (zBM j)) w := by
  refine run_convert_bytes_back (P := Try.prog) w 65 9 5 ⟨b, 0, none⟩ 1 [UInt8.ofNat (97 + j)] Try.underlying65 Try.underlying5 Try.underlying9 (fun k hk => ?_)
  obtain rfl : k = 0 := by simpa using hk
  show w.cell? ⟨b, 0, none⟩ = _
  rw [hr]
  simp only [List.getElem_cons_zero]
  congr 2
  rw [IntWalk.i64_in _ ⟨by omega, by omega⟩, IntKind.wrap_u8]
  simp
theorem zKu (x : Int) (h : -9223372036854775808 ≤ x ∧ x ≤ 9223372036854775807) : -9223372036854775808 ≤ x.tdiv 8 ∧ x.tdiv 8 ≤ 9223372036854775807 := by
  rcases Int.le_total 0 x with h0 | h0
  · rw [zLW h0]; omega
  · obtain ⟨y, rfl⟩ : ∃ y, x = -y := ⟨-x, by omega⟩
    rw [Int.neg_tdiv, zLW (by omega)]; omega
theorem Own.blt {B : Nat} {w : World} {e : TypeId} {size : Nat} {a : Option Addr} {n cap : Nat} {xs : List Value} (h : Own B w e size a n cap xs) (hn : 0 < n) {k : Nat} (hk : blk a k) : B ≤ k ∧ k < w.heap.size := by
  obtain ⟨g, rfl, h1, h2, _⟩ := h.pos hn
  obtain ⟨_, _, e⟩ := hk
  cases e
  exact ⟨h1, h2⟩
theorem qP : ∀ ks : List Sh, ks.length ≤ zC ks
  | [] => Nat.zero_le _
  | .mk _ _ _ q :: ks => by have := qP ks; simp only [zLX, zC, Sh.size]; omega
def zKO (a b : Option Addr) : Prop := ∀ k, blk a k → ¬ blk b k
set_option maxHeartbeats 4000000 in
set_option maxRecDepth 100000 in
theorem zLs (a : Option Addr) (n cap : Nat) (ns : List Int) (w : World) (hs : Sl (fun b => b < w.heap.size) w 1 a n cap (zQ ns)) (hwf : ∀ z ∈ ns, (Lit.int .i64 z).wf = true) :
    Calls Try.prog 11 #[.slice a n cap] w fun e w' => ∃ a' cap', e = .returned (.slice a' (qT ns).length cap') ∧ Own w.heap.size w' 62 4 a' (qT ns).length cap' (fls (qT ns)) ∧ Below w.heap.size w w' := by
  obtain ⟨ii, hii, hz0i, hz1i, hz2i⟩ := info_parts jR
  obtain ⟨iF, hiF, hz0F, hz1F, hz2F⟩ := info_parts zK2
  have hlen : ns.length = n := by have := hs.len; rw [jG] at this; omega
  have hmx := Nat.le_trans hs.le hs.max
  unfold maxLen at hmx
  have HS := zH hs; have HWF := zH hwf; clear hs hwf
  go_enter Try.func11, Try.ntmps11
  go_wp2_with fail
  have rS := Rw.new w #[.string ⟨#[109]⟩, .int .i64 0, .int .i64 0, .int .i64 0] 62
  have hbA := ba (b0 w) (.cells #[.string ⟨#[109]⟩, .int .i64 0, .int .i64 0, .int .i64 0] 62)
  have hzA : (w.alloc (.cells #[.string ⟨#[109]⟩, .int .i64 0, .int .i64 0, .int .i64 0] 62)).heap.size = w.heap.size + 1 := by simp
  generalize w.alloc (.cells #[.string ⟨#[109]⟩, .int .i64 0, .int .i64 0, .int .i64 0] 62) = wA at rS hbA hzA ⊢
  have rO : Rw (wA.alloc (.cells #[.int .i64 0] 3)) (w.heap.size + 1) #[.int .i64 0] 3 := Rw.new' hzA
  have hbB := ba (b0 wA) (.cells #[.int .i64 0] 3)
  generalize wA.alloc (.cells #[.int .i64 0] 3) = wB at rO hbB ⊢
  have rS2 := rS.below hbB
  have oS : Own w.heap.size wB 62 4 (some ⟨w.heap.size, 0, none⟩) 1 1 (fls (zT 0 (qY ns 0))) := ⟨rfl, zL0 _, by decide, .inr ⟨_, _, rfl, zL0 _, rS2, rfl, rfl⟩⟩
  have oO : Own w.heap.size wB 3 1 (some ⟨w.heap.size + 1, 0, none⟩) 1 1 (zQ (wP (qY ns 0))) := ⟨rfl, zL0 _, by decide, .inr ⟨_, _, rfl, by omega, rO, rfl, rfl⟩⟩
  have hap : zKO (some ⟨w.heap.size, 0, none⟩) (some ⟨w.heap.size + 1, 0, none⟩) := fun k ⟨_, _, h1⟩ ⟨_, _, h2⟩ => by cases h1; simp at h2
  have HB0 := zH (bt hbA hbB)
  clear rS rS2 rO hbA hbB hzA
  have HG := zH (GZ.run ns)
  have hmn : min n 12 ≤ 12 := Nat.min_le_right _ _
  go_loopw [3, 4, 5] (fun s o i wr => ∃ (j : Nat) (aS aO : Option Addr) (cS cO : Nat), s = .slice aS (j + 1) cS ∧ o = .slice aO (qY ns j).length cO ∧ i = .int .i64 j ∧ j ≤ n ∧ j ≤ 12 ∧ Hid (Own w.heap.size wr 62 4 aS (j + 1) cS (fls (zT 0 (qY ns j)))) ∧ Hid (Own w.heap.size wr 3 1 aO (qY ns j).length cO (zQ (wP (qY ns j)))) ∧ Hid (zKO aS aO) ∧ Hid (Below w.heap.size w wr)) (fun _ _ i _ => 12 - (intOf i).toNat)
  case atStart => exact ⟨0, _, _, 1, 1, rfl, rfl, rfl, Nat.zero_le _, by decide, zH oS, zH oO, zH hap, HB0⟩
  case round =>
    clear oS oO hap HB0
    obtain ⟨j, aS, aO, cS, cO, rfl, rfl, rfl, hjn, hj12, HOS, HOO, HAP, HB⟩ := hrel
    have hzl := (HG.out j).len
    by_cases hlt : j < n ∧ j < 12
    · obtain ⟨hlt1, hlt2⟩ := hlt
      obtain ⟨nb, noff, rfl, hnb, hnc⟩ := HS.out.pos (by omega)
      have q0 := cb HB.out (hnc _ _ (zO ns j (by omega)))
      have hxwf := HWF.out ns[j] (List.getElem_mem _)
      have HX : Hid (qY ns (j + 1) = zD6 j ns[j] (qY ns j)) := zH (by rw [qY, List.getD_eq_getElem?_getD, List.getElem?_eq_getElem]; rfl)
      generalize ns[j] = x at *
      clear hnc
      have hx1 : -9223372036854775808 ≤ x ∧ x ≤ 9223372036854775807 := by
        simp [Lit.wf, IntKind.min, IntKind.max, IntKind.bits, IntKind.signed] at hxwf; omega
      clear hxwf
      have hq1 := zLT (x.tdiv 64) (show (3 : Int) ≠ 0 by decide)
      have hq2 := zLS (x.tdiv 64) (show (0 : Int) < 3 by decide)
      go_wp2_with fail
      refine (zDG _ 3 wr (by decide) (by decide)).mono ?_
      rintro e w1 ⟨rfl, rfl⟩
      obtain ⟨q0n, hq0⟩ : ∃ q : Nat, (x.tdiv 64) % 3 = (q : Int) := ⟨((x.tdiv 64) % 3).toNat, by omega⟩
      rw [hq0]
      go_upto_block 2 with fail
      go_cut [4, 6] from 27 to 53 (fun o k wc => ∃ z : Zs, o = .slice aO z.length cO ∧ Hid (z = zA6 q0n (qY ns j)) ∧ Hid (Own w.heap.size wr 3 1 aO z.length cO (zQ (wP z))) ∧ wr = wc)
      case first =>
        go_wp2_with fail
        go_loop [4, 6] (fun o k => ∃ (q : Nat) (z : Zs), o = .slice aO z.length cO ∧ k = .int .i64 q ∧ q ≤ 3 ∧ Hid (zA6 q z = zA6 q0n (qY ns j)) ∧ Hid (GZ z) ∧ Hid (zT 0 z = zT 0 (qY ns j)) ∧ Hid (Own w.heap.size wr 3 1 aO z.length cO (zQ (wP z)))) (fun _ k => (intOf k).toNat)
        case atStart => exact ⟨q0n, _, rfl, rfl, by omega, zH rfl, zH (HG.out j), zH rfl, HOO⟩
        case round =>
          obtain ⟨q, z, rfl, rfl, hq3, HP, HGz, HF, HOz⟩ := hrel
          have hzl5 := HGz.out.len
          by_cases hq : q = 0
          · subst hq
            go_wp2_with fail
            go_meet
            case rel => exact ⟨z, rfl, zH HP.out, HOz, rfl⟩
          · obtain ⟨q, rfl⟩ : ∃ q', q = q' + 1 := ⟨q - 1, by omega⟩
            obtain ⟨x', r, rfl⟩ : ∃ x r, z = x :: r := by cases z with | nil => exact absurd rfl HGz.out.pos | cons x r => exact ⟨x, r, rfl⟩
            rcases r with _ | ⟨y', r⟩
            · go_wp2_with fail
              go_meet
              case rel => exact ⟨[x'], rfl, zH HP.out, HOz, rfl⟩
            · obtain ⟨go', hgo, hgo1, hgo2, hgo3, hgo4⟩ := HOz.out.pos (by simp)
              have c1 := hgo3 _ _ (zBU x' (y' :: r))
              have hfl : (zT 1 (y' :: r)).length < j + 1 := by have h := zBF 0 x' (y' :: r); rw [HF.out] at h; have := (zLR.1 h).1; rw [zDf] at this; exact this
              obtain ⟨gs', hgs, hgs1, hgs2, hgs3, hgs4⟩ := HOS.out.pos (by omega)
              have c2 : wr.cell? ⟨gs', (zT 1 (y' :: r)).length * 4 + 3, none⟩ = some (.int .i64 (x'.2.length : Int)) := by
                have h := zBF 0 x' (y' :: r)
                rw [HF.out] at h
                exact hgs3 _ _ (zDR h)
              have hle := HOz.out.le
              have hlz : (x' :: y' :: r).length = r.length + 1 + 1 := rfl
              rw [hlz] at hzl5 hle ⊢
              have hlz2 : (y' :: r).length = r.length + 1 := rfl
              rw [hlz2] at c1
              generalize (zT 1 (y' :: r)).length = idx at *
              have HGO := zH hgo
              clear hgo3 hgs3 hlz hlz2 hgo
              obtain rfl := HGO.out
              obtain rfl := hgs
              by_cases hx0 : x'.2.length = 0
              · have hxe : x'.2 = [] := zLU hx0
                have HPE : Hid (x' :: y' :: r = zA6 q0n (qY ns j)) := zH (by rw [← HP.out]; simp [zA6, hxe])
                rw [hx0] at c2
                clear hxe hx0
                go_wp2_with fail
                go_meet
                case rel => exact ⟨x' :: y' :: r, rfl, HPE, HOz, rfl⟩
              · have hxe : x'.2 ≠ [] := fun h => hx0 (by rw [h]; rfl)
                have hxp : 0 < x'.2.length := by omega
                have HPE : Hid (zA6 q ((y'.1, y'.2 ++ [.mk x'.1.name x'.1.rep x'.1.kind x'.2]) :: r) = zA6 q0n (qY ns j)) := zH (by rw [← HP.out]; simp [zA6, hxe])
                have HG2 : Hid (GZ ((y'.1, y'.2 ++ [.mk x'.1.name x'.1.rep x'.1.kind x'.2]) :: r)) := zH (by have := HGz.out.pop 1; simpa [zA6, hxe] using this)
                have HF2 : Hid (zT 0 ((y'.1, y'.2 ++ [.mk x'.1.name x'.1.rep x'.1.kind x'.2]) :: r) = zT 0 (qY ns j)) := zH ((zCG _ _ _).trans HF.out)
                have HO2 : Hid (Own w.heap.size wr 3 1 (some ⟨go', 0, none⟩) (r.length + 1) cO (zQ (wP ((y'.1, y'.2 ++ [.mk x'.1.name x'.1.rep x'.1.kind x'.2]) :: r)))) := zH (by
                  have h := HOz.out.less (m := r.length + 1) (by simp)
                  rw [zH4 x' y' _ r]
                  simpa [zQ, List.map_take] using h)
                clear hxe hx0
                go_wp2_with fail
                go_round
                case rel => exact ⟨q, _, rfl, rfl, by omega, HPE, HG2, HF2, HO2⟩
                case measure => simp [intOf]
      case rest =>
        obtain ⟨z, rfl, HZ, HOZ, rfl⟩ := hcut
        have m8a := zLT x (show (8 : Int) ≠ 0 by decide)
        have m8b := zLS x (show (0 : Int) < 8 by decide)
        have m3a := zLT (x.tdiv 8) (show (3 : Int) ≠ 0 by decide)
        have m3b := zLS (x.tdiv 8) (show (0 : Int) < 3 by decide)
        have EW : Hid (IntKind.i64.wrap (x.tdiv 8) = x.tdiv 8) := zH (IntWalk.i64_in _ ⟨(zKu x hx1).1, (zKu x hx1).2⟩)
        have ER : Hid ((x % 8).tmod 5 = x % 8 % 5) := zH (Int.tmod_eq_emod_of_nonneg m8a)
        have hk1 := zLT (x % 8) (show (5 : Int) ≠ 0 by decide)
        have hk2 := zLS (x % 8) (show (0 : Int) < 5 by decide)
        go_upto_region 13 with fail
        go_cut [7] from 54 to 71 (fun v7 wc => ∃ b7, v7 = .pointer (some ⟨b7, 0, none⟩) ∧ wr.heap.size ≤ b7 ∧ Hid (Rw wc b7 #[.string (zBM j), .int .i64 ((x.tdiv 8) % 3), .int .i64 (x % 8 % 5), .int .i64 0] 62) ∧ Hid (Below wr.heap.size wr wc))
        case first =>
         go_wp2_with fail
         refine zB4 [19] [54, 55, 56, 57, 58, 59, 60, 61, 62, 63, 64, 65, 66, 67, 68, 69, 70, 71, 7] (fun w' => w'.cell? ⟨nb, noff + j, none⟩ = some (.int .i64 x)) [?g4cJ0, ?g4cJ1, ?g4cJ2, Go.undef, ?g4cJ4, ?g4cJ5, ?g4cJ6, ?g4cJ7, ?g4cJ8, ?g4cJ9, ?g4cJ10, ?g4cJ11, ?g4cJ12, ?g4cJ13, ?g4cJ14, ?g4cJ15, ?g4cJ16, ?g4cJ17, Go.undef, Go.undef] (fun i => match i with | 3 => some (fun v w' => ∃ b, v = .slice (some ⟨b, 0, none⟩) 1 1 ∧ Rw w' b #[.int .u8 (IntKind.u8.wrap (IntKind.i64.wrap (97 + (j : Int))))] 5) | _ => none) (fun i => match i with | 18 => some (#[.string ByteArray.empty, .int .i64 0, .int .i64 0, .int .i64 0], 62) | _ => none) (fun _ => none) (by kernel_rfl) (by kernel_rfl) (by simp) ?g4kS ?g4kT ?g4kC ?g4kU ?g4kW ?g4kO ?g4kA ?g4kE
         case g4kU => intro i d p hp; cases hp
         case g4kW => intro i hp; rfl
         case g4kS => first | trivial | ((try dsimp only); (exact q0))
         case g4kT => intro w w' hb h; first | trivial | ((try dsimp only at h ⊢); (exact cb hb h))
         case g4kC => intro i p hp v w w' hb h; (try dsimp only at hp); split at hp <;> first | (cases hp; (try dsimp only at h ⊢); (obtain ⟨b, h1, h2⟩ := h; exact ⟨b, h1, h2.below hb⟩)) | cases hp
         case g4kO =>
           refine (show zY 20 _ from (zY.succ (zY.succ (zY.succ (zY.succ (zY.succ (zY.succ (zY.succ (zY.succ (zY.succ (zY.succ (zY.succ (zY.succ (zY.succ (zY.succ (zY.succ (zY.succ (zY.succ (zY.succ (zY.succ (zY.succ zY.zero ?g4kO0) ?g4kO1) ?g4kO2) ?g4kO3) ?g4kO4) ?g4kO5) ?g4kO6) ?g4kO7) ?g4kO8) ?g4kO9) ?g4kO10) ?g4kO11) ?g4kO12) ?g4kO13) ?g4kO14) ?g4kO15) ?g4kO16) ?g4kO17) (fun _ h => absurd h (by simp))) (fun h => absurd h (by decide))))
           case g4kO0 | g4kO5 | g4kO6 | g4kO11 | g4kO12 | g4kO1 | g4kO7 | g4kO13 | g4kO2 | g4kO8 | g4kO14 | g4kO9 =>
             refine fun _ _ => ObR.q rfl rfl rfl rfl rfl (fun t w hSw hBw hdep fr hfr => ?_)
             try dsimp only at hSw
             simp only [jF, zLP, zLQ, pD] at hfr
             try rw [show t 54 = _ from zJ (hdep 0 (by decide +kernel)) rfl rfl rfl] at hfr
             try rw [show t 55 = _ from zJ (hdep 1 (by decide +kernel)) rfl rfl rfl] at hfr
             try rw [show t 59 = _ from zJ (hdep 5 (by decide +kernel)) rfl rfl rfl] at hfr
             try rw [show t 60 = _ from zJ (hdep 6 (by decide +kernel)) rfl rfl rfl] at hfr
             try rw [show t 61 = _ from zJ (hdep 7 (by decide +kernel)) rfl rfl rfl] at hfr
             try rw [show t 62 = _ from zJ (hdep 8 (by decide +kernel)) rfl rfl rfl] at hfr
             try rw [show t 65 = _ from zJ (hdep 11 (by decide +kernel)) rfl rfl rfl] at hfr
             try rw [show t 66 = _ from zJ (hdep 12 (by decide +kernel)) rfl rfl rfl] at hfr
             try rw [show t 67 = _ from zJ (hdep 13 (by decide +kernel)) rfl rfl rfl] at hfr
             subst hfr
             refine ⟨rfl, ?_⟩
             skip; go_simp; try with_reducible rfl
           case g4kO3 =>
             refine fun _ _ => ObR.j rfl rfl (fun t w hSw hBw hdep fr hfr => ?_)
             try dsimp only at hSw
             simp only [jF, zLP, zLQ, pD] at hfr
             rw [show t 56 = _ from zJ (hdep 2 (by kernel_rfl)) rfl rfl rfl] at hfr
             subst hfr
             refine obc (C := CK _ _ _ _) (i := 3) (by rfl) (fun K hK => ?_)
             (skip); go_simp; refine hK.out _ _ (ba (b0 _) _) (jJ rfl rfl ⟨_, rfl, Rw.new _ _ _⟩)
           case g4kO4 =>
             refine fun _ _ => ObR.q rfl rfl rfl rfl rfl (fun t w hSw hBw hdep fr hfr => ?_)
             try dsimp only at hSw
             have hx3 := xZ (v := t 57) (hdep 3 (by kernel_rfl)) rfl rfl; try dsimp only at hx3
             obtain ⟨b3, hq3, hr3⟩ := hx3
             simp only [jF, zLP, zLQ, pD] at hfr
             rw [hq3] at hfr
             subst hfr
             clear hq3
             refine ⟨rfl, ?_⟩
             skip; have hconv := zJg w b3 j hj12 (hr3.cell 0); go_simp; try with_reducible rfl
           case g4kO10 =>
             refine fun _ _ => ObR.j rfl rfl (fun t w hSw hBw hdep fr hfr => ?_)
             try dsimp only at hSw
             simp only [jF, zLP, zLQ, pD] at hfr
             rw [show t 63 = _ from zJ (hdep 9 (by kernel_rfl)) rfl rfl rfl] at hfr
             subst hfr
             refine obc (C := CK _ _ _ _) (i := 10) (by rfl) (fun K hK => ?_)
             (skip); go_simp; refine (zDG _ 3 _ (by decide) (by decide)).mono ?_; rintro e w10 ⟨rfl, rfl⟩; (have hb10 := b0 w); dsimp only
             refine hK.out _ _ hb10 (zDX rfl rfl ?g4kY10)
             case g4kY10 => simp only [zLY, zLZ]; with_reducible rfl
           case g4kO15 =>
             refine fun _ _ => ObR.j rfl rfl (fun t w hSw hBw hdep fr hfr => ?_)
             try dsimp only at hSw
             simp only [jF, zLP, zLQ, pD] at hfr
             rw [show t 68 = _ from zJ (hdep 14 (by kernel_rfl)) rfl rfl rfl] at hfr
             subst hfr
             refine obc (C := CK _ _ _ _) (i := 15) (by rfl) (fun K hK => ?_)
             (skip); go_simp; refine (zDG _ 8 _ (by decide) (by decide)).mono ?_; rintro e w15 ⟨rfl, rfl⟩; (have hb15 := b0 w); dsimp only
             refine hK.out _ _ hb15 (zDX rfl rfl ?g4kY15)
             case g4kY15 => simp only [zLY, zLZ]; with_reducible rfl
           case g4kO16 | g4kO17 =>
             refine fun _ _ => ObR.q rfl rfl rfl rfl rfl (fun t w hSw hBw hdep fr hfr => ?_)
             try dsimp only at hSw
             simp only [jF, zLP, zLQ, pD] at hfr
             try rw [show t 58 = _ from zJ (hdep 4 (by decide +kernel)) rfl rfl rfl] at hfr
             try rw [show t 64 = _ from zJ (hdep 10 (by decide +kernel)) rfl rfl rfl] at hfr
             try rw [show t 69 = _ from zJ (hdep 15 (by decide +kernel)) rfl rfl rfl] at hfr
             try rw [show t 70 = _ from zJ (hdep 16 (by decide +kernel)) rfl rfl rfl] at hfr
             subst hfr
             refine ⟨rfl, ?_⟩
             skip; go_simp; try with_reducible rfl
         case g4kA =>
           refine (show zY 20 _ from (zY.succ (zY.succ (zY.succ (zY.succ (zY.succ (zY.succ (zY.succ (zY.succ (zY.succ (zY.succ (zY.succ (zY.succ (zY.succ (zY.succ (zY.succ (zY.succ (zY.succ (zY.succ (zY.succ (zY.succ zY.zero (fun z hz => by cases hz)) (fun z hz => by cases hz)) (fun z hz => by cases hz)) (fun z hz => by cases hz)) (fun z hz => by cases hz)) (fun z hz => by cases hz)) (fun z hz => by cases hz)) (fun z hz => by cases hz)) (fun z hz => by cases hz)) (fun z hz => by cases hz)) (fun z hz => by cases hz)) (fun z hz => by cases hz)) (fun z hz => by cases hz)) (fun z hz => by cases hz)) (fun z hz => by cases hz)) (fun z hz => by cases hz)) (fun z hz => by cases hz)) (fun z hz => by cases hz)) ?g4kA18) (fun z hz => by cases hz)))
           case g4kA18 => intro z hz; cases hz; refine Go.Shr.zLB (o := ⟨some 7, .alloc 62, 0, "law.go:30", #[], none⟩) rfl rfl ?_; intro K a w hK; go_simp; exact hK
         case g4kE =>
           intro a w hJ G hG
           obtain ⟨t, rfl, hSw, HJB, hcJ, hdJ, hrJ⟩ := hJ.open
           try dsimp only at hSw
           refine hG.out ?_
           clear hG G
           generalize hfr : jF _ _ t = fr
           simp only [jF, zLP, zLQ, pD] at hfr
           rw [show t 54 = _ from zJ (hcJ 0 (by decide) (by decide)) rfl rfl rfl] at hfr
           rw [show t 55 = _ from zJ (hcJ 1 (by decide) (by decide)) rfl rfl rfl] at hfr
           rw [show t 56 = _ from zJ (hcJ 2 (by decide) (by decide)) rfl rfl rfl] at hfr
           have hx3 := xZ (v := t 57) (hcJ 3 (by decide) (by decide)) rfl rfl; try dsimp only at hx3
           obtain ⟨b3, hq3, hr3⟩ := hx3
           rw [show t 58 = _ from zJ (hcJ 4 (by decide) (by decide)) rfl rfl rfl] at hfr
           rw [show t 59 = _ from zJ (hcJ 5 (by decide) (by decide)) rfl rfl rfl] at hfr
           rw [show t 60 = _ from zJ (hcJ 6 (by decide) (by decide)) rfl rfl rfl] at hfr
           rw [show t 61 = _ from zJ (hcJ 7 (by decide) (by decide)) rfl rfl rfl] at hfr
           rw [show t 62 = _ from zJ (hcJ 8 (by decide) (by decide)) rfl rfl rfl] at hfr
           rw [show t 63 = _ from zJ (hcJ 9 (by decide) (by decide)) rfl rfl rfl] at hfr
           rw [show t 64 = _ from zJ (hcJ 10 (by decide) (by decide)) rfl rfl rfl] at hfr
           rw [show t 65 = _ from zJ (hcJ 11 (by decide) (by decide)) rfl rfl rfl] at hfr
           rw [show t 66 = _ from zJ (hcJ 12 (by decide) (by decide)) rfl rfl rfl] at hfr
           rw [show t 67 = _ from zJ (hcJ 13 (by decide) (by decide)) rfl rfl rfl] at hfr
           rw [show t 68 = _ from zJ (hcJ 14 (by decide) (by decide)) rfl rfl rfl] at hfr
           rw [show t 69 = _ from zJ (hcJ 15 (by decide) (by decide)) rfl rfl rfl] at hfr
           rw [show t 70 = _ from zJ (hcJ 16 (by decide) (by decide)) rfl rfl rfl] at hfr
           rw [show t 71 = _ from zJ (hcJ 17 (by decide) (by decide)) rfl rfl rfl] at hfr
           obtain ⟨b7, he7, hg7, r7⟩ := zJE (v := t 7) (hcJ 18 (by decide) (by decide)) rfl
           rw [hq3, he7] at hfr
           subst hfr
           clear hcJ hdJ hrJ hq3 he7
           refine zA4 (S := fun _ => True) (F := [19]) _ _ _ _ ?_
           have HB : Below wr.heap.size wr w := bt (b0 wr).drew HJB
           refine (show xM _ _ _ _ _ _ 1 (Go.Shr.zAs 20 [19]) _ _ from ?_)
           have hHeld : True := trivial
           refine zB [19] (by kernel_rfl) (by simp) ?_
           refine zA.last 19 (jB rfl) (by kernel_rfl) (fun K hK => ?g4ro19) ?g4rm19
           case g4rm19 => exact zA.nil
           (have q19_0 := r7.cell 0); (have q19_1 := r7.cell 1); (have q19_2 := r7.cell 2); (have q19_3 := r7.cell 3); (have qf19 := r7.frozen); (have ql19 := r7.lt); (simp only [pG] at q19_0 q19_1 q19_2 q19_3); go_simp; refine xN (fun W hW => ?_); (replace r7 := Rw.ren hW (r7.set4)); (try replace HC := Go.Shr.Chg.ren hW (zLv HC (by simp))); (replace HB := Go.Shr.Below.ren hW (zLw HB (by omega))); clear hW qf19 ql19 q19_0 q19_1 q19_2 q19_3
           refine hK.out _ _ ?_
           clear hK K
           try simp only [pD]
           refine zE (by kernel_rfl) ?_
           rw [EW.out, ER.out] at r7
           go_wp2_with fail
           go_meet
           case rel => exact ⟨b7, rfl, hg7, zH r7, zH HB⟩
        case rest =>
          obtain ⟨b7, rfl, hb7, HR7, HBW⟩ := hcut
          apply_assumption
          refine wp_seq_k (fun K hK => ?_)
          go_cut [7] from 72 to 80 (fun v7 wd => v7 = .pointer (some ⟨b7, 0, none⟩) ∧ Hid (Rw wd b7 #[.string (zBM j), .int .i64 ((x.tdiv 8) % 3), .int .i64 (zAl z.length x), .int .i64 0] 62) ∧ Hid (Below wr.heap.size wr wd))
          case first =>
            have r7 := HR7.out
            have c0 := r7.cell 2
            have c1 := r7.frozen
            have c2 := r7.lt
            clear r7
            have EKK : Hid (zAl z.length x = if 4 < z.length ∧ x % 8 % 5 = 0 then 2 else x % 8 % 5) := zH rfl
            generalize x % 8 % 5 = kk at *
            by_cases h4 : 4 < z.length
            · have h4i : (4 : Int) < (z.length : Int) := by omega
              by_cases hk0 : kk = 0
              · have EK : Hid (zAl z.length x = 2) := zH (by rw [EKK.out, if_pos ⟨h4, hk0⟩])
                clear EKK
                subst hk0
                go_wp2_with fail
                go_meet
                case rel => exact ⟨rfl, zH (by rw [EK.out]; exact HR7.out.set 2 _), zH (HBW.out.setCell (p := ⟨b7, 2, none⟩) hb7 _)⟩
              · have EK : Hid (zAl z.length x = kk) := zH (by rw [EKK.out, if_neg (fun h => hk0 h.2)])
                have hkb : (kk == 0) = false := beq_eq_false_iff_ne.2 hk0
                clear hk0 EKK
                go_wp2_with fail
                go_meet
                case rel => exact ⟨rfl, zH (by rw [EK.out]; exact HR7.out), HBW⟩
            · have EK : Hid (zAl z.length x = kk) := zH (by rw [EKK.out, if_neg (fun h => h4 h.1)])
              clear EKK
              have h4i : ¬ (4 : Int) < (z.length : Int) := by omega
              go_wp2_with fail
              go_meet
              case rel => exact ⟨rfl, zH (by rw [EK.out]; exact HR7.out), HBW⟩
          case rest =>
            obtain ⟨rfl, HRD, HBD⟩ := hcut
            have hGz := (HG.out j).pop q0n
            have hFz := zDM q0n (qY ns j)
            rw [← HZ.out] at hGz hFz
            have HST : Hid (qY ns (j + 1) = zCS (zBM j) (x.tdiv 8 % 3) (zAl z.length x) z) := zH (by
              rw [HX.out, zD6, hq0, Int.toNat_natCast, ← HZ.out])
            have hkb := zCz z.length x
            generalize zAl z.length x = kd at *
            generalize x.tdiv 8 % 3 = rp at *
            obtain ⟨x', r, rfl⟩ : ∃ x r, z = x :: r := by cases z with | nil => exact absurd rfl hGz.pos | cons x r => exact ⟨x, r, rfl⟩
            have oS := HOS.out.below HBD.out
            have oO := HOZ.out.below HBD.out
            have hszd := HBD.out.size
            have hflen : (zT 0 (x' :: r)).length = j + 1 := by rw [hFz, zDf]
            rw [← hFz] at oS
            have hix := zBF 0 x' r
            have hixl := (zLR.1 hix).1
            have hkl : x'.2.length ≤ j + 1 := by
              have h := hflen
              simp only [zT, zLV, zLX, yZ] at h
              have := qP x'.2
              omega
            rw [hflen] at hixl
            obtain ⟨go', hgo, hgo1, hgo2, hgo3, hgo4⟩ := oO.pos (by simp)
            have c1 := hgo3 _ _ (zBU x' r)
            obtain ⟨gs', hgs, hgs1, hgs2, hgs3, hgs4⟩ := oS.pos (by omega)
            have c2 : wc.cell? ⟨gs', (zT 1 r).length * 4 + 3, none⟩ = some (.int .i64 (x'.2.length : Int)) := hgs3 _ _ (zDR hix)
            have c3 := hgs4 ((zT 1 r).length * 4 + 3)
            have hlt7 := HRD.out.lt
            obtain ⟨gs2, hgs2', hgw1, hgw2, _, _⟩ := HOS.out.pos (by omega)
            obtain rfl : gs2 = gs' := by rw [hgs2'] at hgs; cases hgs; rfl
            have hgne : b7 ≠ gs2 := by omega
            have hlenz : (x' :: r).length = r.length + 1 := rfl
            have hleO := oO.le
            have hOg : ∀ k, blk aO k → k ≠ gs2 := fun k hk e => HAP.out gs2 ⟨0, none, hgs⟩ (e ▸ hk)
            have oS3 := oS.stored hgs ((zT 1 r).length * 4 + 3) (.int .i64 ((x'.2.length : Int) + 1))
            rw [zEN] at oS3
            have oO3 := oO.setCell (p := ⟨gs2, (zT 1 r).length * 4 + 3, none⟩) hOg (.int .i64 ((x'.2.length : Int) + 1))
            have r73 := HRD.out.other (p := ⟨gs2, (zT 1 r).length * 4 + 3, none⟩) hgne (.int .i64 ((x'.2.length : Int) + 1))
            have hb3 : Below w.heap.size w (wc.setCell ⟨gs2, (zT 1 r).length * 4 + 3, none⟩ (.int .i64 ((x'.2.length : Int) + 1))) := (bt HB.out HBD.out).setCell (p := ⟨gs2, (zT 1 r).length * 4 + 3, none⟩) hgs1 _
            have hsz3 : (wc.setCell ⟨gs2, (zT 1 r).length * 4 + 3, none⟩ (.int .i64 ((x'.2.length : Int) + 1))).heap.size = wc.heap.size := by simp
            rw [hlenz] at hleO oO3 ⊢
            generalize (zT 1 r).length = idx at *
            have HGO := zH hgo; have HGS := zH hgs; have OS3 := zH oS3; have OO3 := zH oO3; have R73 := zH r73; have HB3 := zH hb3
            have hrl := hGz.len
            rw [hlenz] at hrl
            have HFZ := zH hFz; have HSZ3 := zH hsz3; have HKB := zH hkb; have HGZ := zH hGz
            clear hgo3 hgs3 hgo hgs oS3 oO3 r73 hb3 oS oO hix hgs2' hgs4 hgo4 HRD HBD hlenz hflen hFz hsz3 hOg hkb hGz
            have HGSS := HGS.out
            have HGOO := HGO.out
            subst HGSS
            subst HGOO
            go_upto_region 14 with fail
            generalize wc.setCell ⟨gs2, idx * 4 + 3, none⟩ (.int .i64 ((x'.2.length : Int) + 1)) = w3 at *
            have c70 := R73.out.cell 0
            have c71 := R73.out.cell 1
            have c72 := R73.out.cell 2
            have c73 := R73.out.cell 3
            have hsw3 := HB3.out.size
            have tok1 : True := trivial
            have tok2 : True := trivial
            clear c1 c2 c3 q0
            have hap2 := HAP.out
            have hne2 : ∀ k, blk (some ⟨go', 0, none⟩) k → ¬ (blk (some ⟨gs2, 0, none⟩) k) := fun k h1 h2 => hap2 k h2 h1
            have HNE := zH hne2
            clear hap2 hne2
            by_cases hk0 : kd = 0
            · subst hk0
              go_upto_region 15 with (first
                | (at_builtin; have _t := tok1; clear tok1; clear _t; refine zI (B := w.heap.size) rfl _ _ _ _ rfl iF (.agg #[.string ByteArray.empty, .int .i64 0, .int .i64 0, .int .i64 0]) 40 Try.underlying26 hiF hz0F hz1F hz2F rfl rfl (OS3.out.alloc _) _ rfl _ _ (zP (e' := 62) Try.underlying26 w3 #[.string (zBM j), .int .i64 rp, .int .i64 0, .int .i64 0] 62 1 4 rfl (by simp [Value.oneCell'])) (by simp only [maxLen]; omega) (by omega) (by first | omega | (simp; omega) | simp) ?_; intro a5 cap5 w5 ho5 hc5 hn5); (have r75 := (R73.out.alloc (.cells #[.string (zBM j), .int .i64 rp, .int .i64 0, .int .i64 0] 62)).chg hc5 (by rintro ⟨⟨_, _, h⟩, _⟩; cases h; exact hgne rfl)); (have HR75 := zH r75); (have HOO5 := zH ((OO3.out.alloc (.cells #[.string (zBM j), .int .i64 rp, .int .i64 0, .int .i64 0] 62)).chg hc5 (fun k hk h => HNE.out k hk h.1))); (have HOS5 := zH ho5); (have HC5 := zH hc5); (have HN5 := zH hn5); clear ho5 hc5 hn5 r75
                | fail)
              have c72' := HR75.out.cell 2
              have c73' := HR75.out.lt
              have hsw5 := HC5.out.size
              simp only [World.size_alloc] at hsw5
              clear c70 c71 c72 c73
              have tok2 : True := trivial
              go_wp2_with (first
                | (at_builtin; have _t := tok2; clear tok2; clear _t; refine zI (B := w.heap.size) rfl _ _ _ _ rfl ii (.int .i64 0) 8 Try.underlying22 hii hz0i hz1i hz2i rfl rfl (HOO5.out.alloc _) _ rfl _ _ (zP (e' := 3) Try.underlying22 w5 #[.int .i64 ((j : Int) + 1)] 3 1 1 rfl (by simp [Value.oneCell'])) (by simp only [maxLen]; omega) (by omega) (by first | omega | (simp; omega) | simp) ?_; intro a6 cap6 w6 ho6 hc6 hn6); (have HOS6 := zH ho6); (have HC6 := zH hc6); (have HN6 := zH hn6); clear ho6 hc6 hn6
                | fail)
              go_roundw
              case rel =>
                have hj1 : (zT 1 (x' :: r)).length = j + 1 := by rw [zEM 1 0, HFZ.out, zDf]
                have e1 : fls (zT 0 (qY ns (j + 1))) = fls (zT 1 (x' :: r)) ++ #[.string (zBM j), .int .i64 rp, .int .i64 0, .int .i64 0].toList := by rw [HST.out, zAO, zBb]; rfl
                have e2 : (qY ns (j + 1)).length = r.length + 1 + 1 := by rw [HST.out]; simp [zCS]
                have e3 : zQ (wP (qY ns (j + 1))) = zQ (wP (x' :: r)) ++ #[.int .i64 ((j : Int) + 1)].toList := by
                  rw [HST.out]
                  simp only [zCS, if_true]
                  rw [wP, hj1]
                  simp [zQ]
                have h5 : ∀ k, blk a5 k → ¬ blk (some ⟨go', 0, none⟩) k := fun k h1 h2 => by
                  have h3 : k = go' := by obtain ⟨_, _, e⟩ := h2; cases e; rfl
                  rcases HN5.out k h1 with h | h
                  · exact HAP.out k h h2
                  · have := HSZ3.out; simp at h; omega
                have o5 := ((HOS5.out.alloc (.cells #[.int .i64 ((j : Int) + 1)] 3)).chg HC6.out (fun k hk h => h5 k hk h.1))
                refine ⟨j + 1, a5, a6, cap5, cap6, rfl, by rw [e2], by go_num, by omega, by omega, zH (by rw [e1]; exact o5), zH (by rw [e2, e3]; exact HOS6.out), zH ?_, zH ?_⟩
                · intro k h1 h2
                  rcases HN6.out k h2 with h | h
                  · exact h5 k h1 h
                  · have := Own.blt HOS5.out (by omega) h1; simp at h; omega
                · have hb5 := Chg.bt (ba HB3.out (.cells #[.string (zBM j), .int .i64 rp, .int .i64 0, .int .i64 0] 62)) HC5.out (fun i hi h => by omega)
                  exact Chg.bt (ba hb5 _) HC6.out (fun i hi h => by omega)
              case measure => simp [intOf]; omega
            · have hkb0 : (kd == 0) = false := beq_eq_false_iff_ne.2 hk0
              have HK0 := zH hk0
              clear hk0 tok2
              go_upto_region 15 with (first
                | (at_builtin; have _t := tok1; clear tok1; clear _t; refine zI (B := w.heap.size) rfl _ _ _ _ rfl iF (.agg #[.string ByteArray.empty, .int .i64 0, .int .i64 0, .int .i64 0]) 40 Try.underlying26 hiF hz0F hz1F hz2F rfl rfl (OS3.out.alloc _) _ rfl _ _ (zP (e' := 62) Try.underlying26 w3 #[.string (zBM j), .int .i64 rp, .int .i64 kd, .int .i64 0] 62 1 4 rfl (by simp [Value.oneCell'])) (by simp only [maxLen]; omega) (by omega) (by first | omega | (simp; omega) | simp) ?_; intro a5 cap5 w5 ho5 hc5 hn5); (have r75 := (R73.out.alloc (.cells #[.string (zBM j), .int .i64 rp, .int .i64 kd, .int .i64 0] 62)).chg hc5 (by rintro ⟨⟨_, _, h⟩, _⟩; cases h; exact hgne rfl)); (have HR75 := zH r75); (have HOO5 := zH ((OO3.out.alloc (.cells #[.string (zBM j), .int .i64 rp, .int .i64 kd, .int .i64 0] 62)).chg hc5 (fun k hk h => HNE.out k hk h.1))); (have HOS5 := zH ho5); (have HC5 := zH hc5); (have HN5 := zH hn5); clear ho5 hc5 hn5 r75
                | fail)
              have c72' := HR75.out.cell 2
              have c73' := HR75.out.lt
              clear c70 c71 c72 c73
              go_wp2_with fail
              go_roundw
              case rel =>
                have e1 : fls (zT 0 (qY ns (j + 1))) = fls (zT 1 (x' :: r)) ++ #[.string (zBM j), .int .i64 rp, .int .i64 kd, .int .i64 0].toList := by rw [HST.out, zAO, zBb]; rfl
                have e2 : (qY ns (j + 1)).length = r.length + 1 := by rw [HST.out]; simp [zCS, HK0.out]
                have e3 : zQ (wP (qY ns (j + 1))) = zQ (wP (x' :: r)) := by
                  rw [HST.out]
                  simp only [zCS, if_neg HK0.out]
                  rfl
                have h5 : ∀ k, blk a5 k → ¬ blk (some ⟨go', 0, none⟩) k := fun k h1 h2 => by
                  have h3 : k = go' := by obtain ⟨_, _, e⟩ := h2; cases e; rfl
                  rcases HN5.out k h1 with h | h
                  · exact HAP.out k h h2
                  · have := HSZ3.out; simp at h; omega
                refine ⟨j + 1, a5, some ⟨go', 0, none⟩, cap5, cO, rfl, by rw [e2], by go_num, by omega, by omega, zH (by rw [e1]; exact HOS5.out), zH (by rw [e2, e3]; exact HOO5.out), zH h5, zH ?_⟩
                exact Chg.bt (ba HB3.out (.cells #[.string (zBM j), .int .i64 rp, .int .i64 kd, .int .i64 0] 62)) HC5.out (fun i hi h => by omega)
              case measure => simp [intOf]; omega
    · have hjm : min ns.length 12 = j := by omega
      have hGz := HG.out j
      have hfl0 := zDf ns j
      have HM : Hid (qT ns = zT 0 (zFl (qY ns j))) := zH (by rw [qT, zIr, hjm])
      generalize hz : qY ns j = z at *
      obtain ⟨x', r, rfl⟩ : ∃ x r, z = x :: r := by cases z with | nil => exact absurd rfl hGz.pos | cons x r => exact ⟨x, r, rfl⟩
      have hix := zBF 0 x' r
      have hixl := (zLR.1 hix).1
      have hkl : x'.2.length ≤ j + 1 := by
        have h := hfl0
        simp only [zT, zLV, zLX, yZ] at h
        have := qP x'.2
        omega
      obtain ⟨go', rfl, hgo1, hgo2, hgo3, hgo4⟩ := HOO.out.pos (by simp)
      have c1 := hgo3 _ _ (zBU x' r)
      obtain ⟨gs', hgs, hgs1, hgs2, hgs3, hgs4⟩ := HOS.out.pos (by omega)
      have c2 : wr.cell? ⟨gs', (zT 1 r).length * 4 + 3, none⟩ = some (.int .i64 (x'.2.length : Int)) := hgs3 _ _ (zDR hix)
      have c3 := hgs4 ((zT 1 r).length * 4 + 3)
      have hlenz : (x' :: r).length = r.length + 1 := rfl
      have hleO := HOO.out.le
      rw [hlenz] at hleO hzl ⊢
      have oS3 := HOS.out.stored hgs ((zT 1 r).length * 4 + 3) (.int .i64 ((x'.2.length : Int) + 1))
      rw [zEN] at oS3
      have HB3 := zH (HB.out.setCell (p := ⟨gs', (zT 1 r).length * 4 + 3, none⟩) hgs1 (.int .i64 ((x'.2.length : Int) + 1)))
      have hszr := HB.out.size
      rw [hfl0] at hixl
      generalize (zT 1 r).length = idx at *
      have HOS3 := zH oS3; have HHZ := zH hz; have HFL := zH hfl0
      have hnlt : ¬ ((j : Int) < (n : Int) ∧ (j : Int) < 12) := by omega
      clear hgo3 hgs3 hgo4 hgs4 oS3 hix hz hfl0 hGz hlenz hjm hlen
      subst hgs
      have hnl : (¬ (j : Int) < (n : Int)) ∨ ((j : Int) < (n : Int) ∧ ¬ (j : Int) < 12) := by omega
      clear hlt hnlt
      rcases hnl with hnl | ⟨hnl1, hnl2⟩
      all_goals
        by_cases hk0 : x'.2.length = 0
        · have HME : Hid (qT ns = zT 1 (x' :: r) ++ [⟨⟨#[122]⟩, 0, 4, 0⟩]) := zH (by
            have hx : x'.2 = [] := zLU hk0
            have h := zAO ⟨#[122]⟩ 0 4 x' r
            simp only [zCS, if_neg (show ¬ ((4 : Int) = 0) by decide)] at h
            rw [HM.out, zFl, if_pos hx, ← h, hx]
            rfl)
          have HLE : Hid ((qT ns).length = j + 1 + 1) := zH (by rw [HME.out, zLV, zEM 1 0, HFL.out]; rfl)
          rw [hk0] at c2 HOS3 HB3
          clear hk0 HM hkl
          have tok1 : True := trivial
          have HOS3' := HOS3
          go_upto_region 19 with fail
          have HOS4 : Hid (Own w.heap.size (wr.setCell ⟨gs', idx * 4 + 3, none⟩ (.int .i64 1)) 62 4 (some ⟨gs', 0, none⟩) (j + 1) cS (fls (zT 1 (x' :: r)))) := zH HOS3.out
          have HB4 : Hid (Below w.heap.size w (wr.setCell ⟨gs', idx * 4 + 3, none⟩ (.int .i64 1))) := zH HB3.out
          clear HOS3 HB3 HOS3' c1 c2 c3
          generalize wr.setCell ⟨gs', idx * 4 + 3, none⟩ (.int .i64 1) = w3 at *
          have hsw3 := HB4.out.size
          go_wp2_with (first
            | (at_builtin; have _t := tok1; clear tok1; clear _t; refine zI (B := w.heap.size) rfl _ _ _ _ rfl iF (.agg #[.string ByteArray.empty, .int .i64 0, .int .i64 0, .int .i64 0]) 40 Try.underlying26 hiF hz0F hz1F hz2F rfl rfl (HOS4.out.alloc _) _ rfl _ _ (zP (e' := 62) Try.underlying26 w3 #[.string ⟨#[122]⟩, .int .i64 0, .int .i64 4, .int .i64 0] 62 1 4 rfl (by simp [Value.oneCell'])) (by simp only [maxLen]; omega) (by omega) (by first | omega | (simp; omega) | simp) ?_; intro a5 cap5 w5 ho5 hc5 hn5); (have HOS5 := zH ho5); (have HC5 := zH hc5); clear ho5 hc5 hn5
            | fail)
          go_ret
          refine ⟨a5, cap5, by rw [HLE.out]; rfl, ?_, ?_⟩
          · rw [HLE.out, HME.out, zBb]; exact HOS5.out
          · exact Chg.bt (ba HB4.out (.cells #[.string ⟨#[122]⟩, .int .i64 0, .int .i64 4, .int .i64 0] 62)) HC5.out (fun i hi h => by omega)
        · have HME : Hid (qT ns = zT 0 (x' :: r)) := zH (by rw [HM.out, zFl, if_neg (fun h => hk0 (by rw [h]; rfl))])
          have HLE : Hid ((qT ns).length = j + 1) := zH (by rw [HME.out, HFL.out])
          have hkb : ((x'.2.length : Int) == 0) = false := beq_eq_false_iff_ne.2 (by omega)
          clear hk0 HM
          go_wp2_with fail
          go_ret
          refine ⟨some ⟨gs', 0, none⟩, cS, by rw [HLE.out]; rfl, ?_, HB.out⟩
          rw [HLE.out, HME.out]; exact HOS.out
end Go.Proofs.Ytjbkjfefjhbolaa
