/-
  The walk of the document's kids.
-/
import Derived.Test.YtgpffcgkfgiodaaKept7
import Derived.Deep.CutRange
set_option linter.unusedSimpArgs false
namespace Go.Proofs.Ytgpffcgkfgiodaa
open Go.RowKit Go.Shr
set_option maxHeartbeats 2000000 in
set_option maxRecDepth 100000 in
theorem kids_v (B : Nat) (sa pa ka aO : Option Addr) (sc pc kc cO : Nat) (l : List Fl) (f : Nat → Bool) (c0 : Nat → Int) (w : World) (hn : l.length ≤ 1000)
    (hs : Sl (fun b => b < w.heap.size ∧ ¬ blk aO b) w 4 sa l.length sc (fls l)) (hp : Sl (fun b => b < w.heap.size ∧ ¬ blk aO b) w 1 pa l.length pc (ints (par l))) (hk : Sl (fun b => b < w.heap.size ∧ ¬ blk aO b) w 1 ka l.length kc (bls f l.length))
    (ho : Own B w 40 4 aO (rank f l.length) cO (fls (keptG f l l.length c0))) :
    Calls Try.prog 37 #[.slice sa l.length sc, .slice pa l.length pc, .slice ka l.length kc, .slice aO (rank f l.length) cO] w fun e w' => e = .returned (.slice aO (rank f l.length) cO) ∧ Own B w' 40 4 aO (rank f l.length) cO (fls (keptL f l)) ∧ Chg (fun b => blk aO b ∧ B ≤ b) w w' := by
  have HPL := Lib.hid (par_length l)
  have hrk : rank f l.length ≤ l.length := rank_le
  have HS := Lib.hid hs; have HP := Lib.hid hp; have HKE := Lib.hid hk; have HO := Lib.hid ho
  clear hs hp hk ho
  go_enter Try.func37, Try.ntmps37
  go_wp2_with fail
  go_loopw [9, 10] (fun nv iv wr => ∃ (j : Nat), nv = .int .i64 (rank f j : Int) ∧ iv = .int .i64 (j : Int) ∧ j ≤ l.length ∧ Hid (Own B wr 40 4 aO (rank f l.length) cO (fls (keptG f l l.length fun a => if a < j then (cnt f (par l) l.length a : Int) else c0 a))) ∧
      Hid (Chg (fun b => blk aO b ∧ B ≤ b) w wr)) (fun _ iv _ => l.length - (intOf iv).toNat)
  case atStart => exact ⟨0, rfl, rfl, Nat.zero_le _, Lib.hid (by simpa using HO.out), Lib.hid (Chg.refl _ _)⟩
  case round =>
    obtain ⟨j, rfl, rfl, hj, HOO, HC⟩ := hrel
    have hrj : rank f j ≤ j := rank_le
    by_cases hlt : j < l.length
    · obtain ⟨bk, ok, rfl, ⟨hbk, hbk1⟩, hkc⟩ := HKE.out.pos (by omega)
      have ck := HC.out.keep (hkc _ _ (bls_get f hlt)) (fun h => hbk1 h.1)
      cases hfj : f j with
      | false =>
        rw [hfj] at ck
        have HFJ := Lib.hid hfj
        clear hfj hkc
        go_wp2_with fail
        go_roundw
        case rel =>
          refine ⟨j + 1, by rw [rank_no HFJ.out], by go_num, by omega, Lib.hid ?_, HC⟩
          refine (keptG_congr (fun a _ ha => ?_)) ▸ HOO.out
          have : a ≠ j := fun e => by rw [e, HFJ.out] at ha; cases ha
          by_cases h : a < j
          · rw [if_pos h, if_pos (by omega)]
          · rw [if_neg h, if_neg (by omega)]
        case measure => simp [intOf]; omega
      | true =>
        rw [hfj] at ck
        have HFJ := Lib.hid hfj
        have hrl := rank_lt hlt hfj
        clear hfj
        obtain ⟨g, rfl, g1, g2, g3, g4⟩ := HOO.out.pos (by omega)
        have q3 := g3 _ _ (fls_kids (keptG_at (l := l) (m := l.length) (c := fun a => if a < j then (cnt f (par l) l.length a : Int) else c0 a) hlt HFJ.out))
        dsimp only at q3
        rw [if_neg (by omega)] at q3
        have fz := g4 (rank f j * 4 + 3)
        have HKC := Lib.hid hkc
        generalize c0 j = z0 at q3
        clear g3 g4 hkc
        have HO1 := HOO.out.stored rfl (rank f j * 4 + 3) (.int .i64 0)
        rw [keptG_set hlt HFJ.out] at HO1
        have HO2 := Lib.hid HO1
        have HC2 := Lib.hid (HC.out.setCell (p := ⟨g, rank f j * 4 + 3, none⟩) (.inr ⟨⟨_, _, rfl⟩, g1⟩) (.int .i64 0))
        clear HO1
        go_upto_block 2 with fail
        go_cut [11] from 27 to 52 (fun _ wc => Hid (Own B wc 40 4 (some ⟨g, 0, none⟩) (rank f l.length) cO (fls (keptG f l l.length fun a => if a < j + 1 then (cnt f (par l) l.length a : Int) else c0 a))) ∧ Hid (Chg (fun b => blk (some ⟨g, 0, none⟩) b ∧ B ≤ b) w wc))
        case first =>
          clear q3 fz ck
          go_wp2_with fail
          go_loopw [11] (fun kv wk => ∃ k : Nat, kv = .int .i64 (k : Int) ∧ k ≤ l.length ∧ Hid (Own B wk 40 4 (some ⟨g, 0, none⟩) (rank f l.length) cO (fls (keptG f l l.length fun a => if a = j then (cnt f (par l) k j : Int) else if a < j then (cnt f (par l) l.length a : Int) else c0 a))) ∧ Hid (Chg (fun b => blk (some ⟨g, 0, none⟩) b ∧ B ≤ b) w wk)) (fun kv _ => l.length - (intOf kv).toNat)
          case atStart => exact ⟨0, rfl, Nat.zero_le _, HO2, HC2⟩
          case round =>
            clear HO2 HC2
            obtain ⟨k, rfl, hk, HO3, HC3⟩ := hrel
            by_cases hkl : k < l.length
            · have hkp : k < (par l).length := by rw [HPL.out]; exact hkl
              obtain ⟨bp, op, rfl, ⟨hbp, hbp1⟩, hpc⟩ := HP.out.pos (by omega)
              have cp := HC3.out.keep (hpc _ _ (ints_get (par l) k hkp)) (fun h => hbp1 h.1)
              have ck := HC3.out.keep (HKC.out _ _ (bls_get f hkl)) (fun h => hbk1 h.1)
              have HPD := Lib.hid (getD_par hkl)
              generalize (par l)[k] = q at *
              clear hpc
              have hcl : cnt f (par l) k j ≤ k := cnt_le
              cases hfk : f k with
              | false =>
                rw [hfk] at ck
                have HFK := Lib.hid hfk
                clear hfk
                go_wp2_with fail
                go_roundw
                case rel =>
                  refine ⟨k + 1, by go_num, by omega, Lib.hid ?_, HC3⟩
                  have : cnt f (par l) (k + 1) j = cnt f (par l) k j := by rw [cnt_succ, if_neg (by simp [HFK.out])]; rfl
                  rw [this]; exact HO3.out
                case measure => simp [intOf]; omega
              | true =>
                rw [hfk] at ck
                have HFK := Lib.hid hfk
                clear hfk
                by_cases hqj : q = (j : Int)
                · obtain ⟨g', hgg, h1, h2, h3, h4⟩ := HO3.out.pos (by omega)
                  injection hgg with hgg; injection hgg with hgg; subst hgg
                  have r3 := h3 _ _ (fls_kids (keptG_at (l := l) (m := l.length) (c := fun a => if a = j then (cnt f (par l) k j : Int) else if a < j then (cnt f (par l) l.length a : Int) else c0 a) hlt HFJ.out))
                  dsimp only at r3
                  rw [if_pos rfl] at r3
                  have rz := h4 (rank f j * 4 + 3)
                  have HQ := Lib.hid hqj
                  have hqb : (q == (j : Int)) = true := beq_iff_eq.2 hqj
                  clear h3 h4 hqj
                  go_wp2_with fail
                  go_roundw
                  case rel =>
                    refine ⟨k + 1, by go_num, by omega, Lib.hid ?_, Lib.hid (HC3.out.setCell (p := ⟨g, rank f j * 4 + 3, none⟩) (.inr ⟨⟨_, _, rfl⟩, g1⟩) _)⟩
                    have h := HO3.out.stored rfl (rank f j * 4 + 3) (.int .i64 ((cnt f (par l) k j : Int) + 1))
                    rw [keptG_set hlt HFJ.out] at h
                    refine (keptG_congr (fun a _ _ => ?_)) ▸ h
                    have : cnt f (par l) (k + 1) j = cnt f (par l) k j + 1 := by rw [cnt_succ, if_pos ⟨HFK.out, by rw [HPD.out, HQ.out]⟩]
                    rw [this]
                    by_cases e : a = j
                    · rw [if_pos e, if_pos e]; rfl
                    · rw [if_neg e, if_neg e, if_neg e]
                  case measure => simp [intOf]; omega
                · have hqb : (q == (j : Int)) = false := beq_eq_false_iff_ne.2 hqj
                  have HQ := Lib.hid hqj
                  clear hqj
                  go_wp2_with fail
                  go_roundw
                  case rel =>
                    refine ⟨k + 1, by go_num, by omega, Lib.hid ?_, HC3⟩
                    have : cnt f (par l) (k + 1) j = cnt f (par l) k j := by rw [cnt_succ, if_neg (by rw [HPD.out]; exact fun h => HQ.out h.2)]; rfl
                    rw [this]; exact HO3.out
                  case measure => simp [intOf]; omega
            · obtain rfl : k = l.length := by omega
              go_wp2_with fail
              go_meet
              case rel =>
                refine ⟨Lib.hid ?_, HC3⟩
                refine (keptG_congr (fun a _ _ => ?_)) ▸ HO3.out
                by_cases e : a = j
                · subst e; rw [if_pos rfl, if_pos (by omega)]
                · rw [if_neg e]
                  by_cases h : a < j
                  · rw [if_pos h, if_pos (by omega)]
                  · rw [if_neg h, if_neg (by omega)]
        case rest =>
          obtain ⟨HO3, HC3⟩ := hcut
          have HRY := Lib.hid (rank_yes HFJ.out)
          go_wp2_with fail
          go_roundw
          case rel => exact ⟨j + 1, by rw [HRY.out]; go_num, by go_num, by omega, HO3, HC3⟩
          case measure => simp [intOf]; omega
    · obtain rfl : j = l.length := by omega
      go_wp2_with fail
      go_ret
      refine ⟨rfl, ?_, HC.out⟩
      have e := keptG_congr (f := f) (l := l) (m := l.length) (c := fun a => if a < l.length then (cnt f (par l) l.length a : Int) else c0 a) (c' := fun a => (cnt f (par l) l.length a : Int)) (fun a ha _ => by rw [if_pos ha])
      unfold keptL
      rw [← e]
      exact HOO.out
end Go.Proofs.Ytgpffcgkfgiodaa
