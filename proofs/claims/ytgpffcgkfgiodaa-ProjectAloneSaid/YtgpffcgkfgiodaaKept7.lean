/-
  The walk of kept.
-/
import Derived.Test.YtgpffcgkfgiodaaKeptP
import Derived.Test.YtgpffcgkfgiodaaClone7
import Derived.Test.YtgpffcgkfgiodaaPath7
import Derived.Deep.CutRange
set_option linter.unusedSimpArgs false
namespace Go.Proofs.Ytgpffcgkfgiodaa
open Go.RowKit Go.Shr
theorem info_bo : (Try.prog.info? 4).map (fun i => (i.zero, i.size, i.bytes)) = some (some (.bool false), 1, 1) := by kernel_rfl
theorem zeros_i (n : Nat) : (madeCells (Value.cells (.int .i64 0)) (n * 1)).toList = List.replicate n (Value.int .i64 0) := by
  rw [Nat.mul_one, show (Value.int IntKind.i64 0).cells = #[.int .i64 0] from rfl, toList_madeCells_one]
theorem zeros_bo (n : Nat) : (madeCells (Value.cells (.bool false)) (n * 1)).toList = List.replicate n (Value.bool false) := by
  rw [Nat.mul_one, show (Value.bool false).cells = #[.bool false] from rfl, toList_madeCells_one]
theorem fls_one (l : List Fl) : ∀ u ∈ fls l, u.oneCell' = true := by
  intro u hu
  simp only [fls, List.mem_flatMap] at hu
  obtain ⟨x, _, hu⟩ := hu
  simp at hu
  rcases hu with rfl | rfl | rfl | rfl <;> rfl
set_option maxHeartbeats 2000000 in
set_option maxRecDepth 100000 in
theorem kept_v (sa pa ka : Option Addr) (sc pc kc : Nat) (l : List Fl) (f : Nat → Bool) (w : World) (hn : l.length ≤ 1000) (h0 : 0 < l.length)
    (hs : Sl (fun b => b < w.heap.size) w 4 sa l.length sc (fls l)) (hp : Sl (fun b => b < w.heap.size) w 1 pa l.length pc (ints (par l))) (hk : Sl (fun b => b < w.heap.size) w 1 ka l.length kc (bls f l.length))
    (hf : ∀ (i k : Nat), i < l.length → f i = true → (par l)[i]? = some (k : Int) → f k = true) :
    Calls Try.prog 33 #[.slice sa l.length sc, .slice pa l.length pc, .slice ka l.length kc] w fun e w' => ∃ a' c', e = .returned (.slice a' (rank f l.length) c') ∧ Own w.heap.size w' 40 4 a' (rank f l.length) c' (fls (keptL f l)) ∧ Below w.heap.size w w' := by
  obtain ⟨ii, hii, hz0i, hz1i, hz2i⟩ := info_parts info_i
  obtain ⟨iF, hiF, hz0F, hz1F, hz2F⟩ := info_parts info_f
  have HPL := Lib.hid (par_length l)
  have HS := Lib.hid hs; have HP := Lib.hid hp; have HKE := Lib.hid hk; have HF := Lib.hid hf
  clear hs hp hk hf
  have ht0 : True := trivial
  go_enter Try.func33, Try.ntmps33
  go_wp2_with (at_make; refine wpList_make rfl _ _ _ rfl w.heap.size _ ii (.int .i64 0) 1 Try.underlying22 hii hz0i hz1i .i64 .i64 _ _ l.length rfl rfl rfl rfl (by rw [hz2i]; omega) (by simp only [maxLen]; omega) (Nat.le_refl _) ?_; intro w2 hown hchg; have HO := Lib.hid hown; have HB2 := Lib.hid (hchg.below (Nat.le_refl _) (fun _ _ h => h)); clear hown hchg)
  rw [zeros_i, ← atl_zero f] at HO
  go_loopw [7, 17] (fun vo iv wr => ∃ (j : Nat) (aO : Option Addr) (cO : Nat), vo = .slice aO (rank f j) cO ∧ iv = .int .i64 (j : Int) ∧ j ≤ l.length ∧ Hid (Own w.heap.size wr 40 4 aO (rank f j) cO (fls (keptG f l j fun a => (cnt f (par l) j a : Int)))) ∧
      Hid (Own w.heap.size wr 3 1 (some ⟨w.heap.size, 0, none⟩) l.length l.length (ints (atl f l.length j))) ∧ Hid (∀ k, blk aO k → k ≠ w.heap.size ∧ k < wr.heap.size) ∧ Hid (Below w.heap.size w wr)) (fun _ iv _ => l.length - (intOf iv).toNat)
  case atStart => exact ⟨0, none, 0, rfl, rfl, Nat.zero_le _, Lib.hid (Own.nil _ _ _ _), HO, Lib.hid (fun k ⟨_, _, h⟩ => by cases h), HB2⟩
  case round =>
    clear HO HB2
    obtain ⟨j, aO, cO, rfl, rfl, hj, HOO, HOA, HNE, HB⟩ := hrel
    have hszr := HB.out.size
    have hrk : rank f j ≤ j := rank_le
    by_cases hlt : j < l.length
    · have hjp : j < (par l).length := by rw [HPL.out]; exact hlt
      obtain ⟨bs, os, rfl, hbs, hsc⟩ := HS.out.pos (by omega)
      obtain ⟨bp, op, rfl, hbp, hpc⟩ := HP.out.pos (by omega)
      obtain ⟨bk, ok, rfl, hbk, hkc⟩ := HKE.out.pos (by omega)
      obtain ⟨f0, f1, f2, f3⟩ := fls_get l j hlt
      replace f0 := cb HB.out (hsc _ _ f0); replace f1 := cb HB.out (hsc _ _ f1); replace f2 := cb HB.out (hsc _ _ f2); replace f3 := cb HB.out (hsc _ _ f3)
      rw [← Nat.add_assoc] at f1 f2 f3
      have ck := cb HB.out (hkc _ _ (bls_get f hlt))
      have cp0 := hpc _ _ (ints_get (par l) j hjp)
      have hpb := par_bd l j hjp
      have HFN := Lib.hid (flN_eq hlt)
      have HPD := Lib.hid (getD_par hlt)
      have HPG : Hid ((par l)[j]? = some (par l)[j]) := Lib.hid (List.getElem?_eq_getElem hjp)
      have HCP := Lib.hid cp0
      generalize (par l)[j] = q at *
      generalize l[j] = fj at *
      obtain ⟨nm, rp, kd, kk⟩ := fj
      dsimp only at f0 f1 f2 f3
      obtain ⟨ga, hga, ga1, ga2, ga3, ga4⟩ := HOA.out.pos (by omega)
      injection hga with hga; injection hga with hga; subst hga
      have hbs2 : bs < wr.heap.size := Nat.lt_of_lt_of_le hbs hszr
      have hbp2 : bp < wr.heap.size := Nat.lt_of_lt_of_le hbp hszr
      have hbk2 : bk < wr.heap.size := Nat.lt_of_lt_of_le hbk hszr
      have hal : j < (atl f l.length j).length := by rw [atl_len]; exact hlt
      have cA := ga3 _ _ (ints_get (atl f l.length j) j hal)
      generalize (atl f l.length j)[j] = av at cA
      clear cp0 ga3 hpc hsc hkc hal
      cases hfj : f j with
      | false =>
        rw [hfj] at ck
        have HFJ := Lib.hid hfj
        clear hfj
        go_wp2_with fail
        go_roundw
        case rel =>
          refine ⟨j + 1, aO, cO, by rw [rank_no HFJ.out], by go_num, by omega, Lib.hid ?_, Lib.hid ?_, Lib.hid (fun k hk => ⟨(HNE.out k hk).1, by have := (HNE.out k hk).2; simp; omega⟩), Lib.hid (ba HB.out _)⟩
          · rw [rank_no HFJ.out, keptG_no HFJ.out]
            refine (keptG_congr (fun a _ _ => ?_)) ▸ (HOO.out.alloc _)
            rw [cnt_succ, if_neg (by simp [HFJ.out])]; rfl
          · rw [atl_no HFJ.out]; exact HOA.out.alloc _
        case measure => simp [intOf]; omega
      | true =>
        rw [hfj] at ck
        have HFJ := Lib.hid hfj
        have fzA := ga4 j
        have hcapA := HOA.out.le
        clear hfj ga4
        go_upto_region 9 with fail
        generalize hW : (wr.setCell ⟨w.heap.size, j, none⟩ (.int .i64 (rank f j : Int))).alloc (.cells #[.string nm, .int .i64 rp, .int .i64 kd, .int .i64 0] 40) = W
        have rX : Rw W wr.heap.size #[.string nm, .int .i64 rp, .int .i64 kd, .int .i64 0] 40 := by
          rw [← hW]; exact Rw.new' (by simp)
        have oA : Own w.heap.size W 3 1 (some ⟨w.heap.size, 0, none⟩) l.length l.length (ints (atl f l.length (j + 1))) := by
          rw [← atl_yes HFJ.out, ← hW]; exact (HOA.out.stored rfl j _).alloc _
        have oO : Own w.heap.size W 40 4 aO (rank f j) cO (fls (keptG f l j fun a => (cnt f (par l) j a : Int))) := by
          rw [← hW]
          exact (HOO.out.setCell (p := ⟨w.heap.size, j, none⟩) (fun k hk => (HNE.out k hk).1) _).alloc _
        have bW : Below w.heap.size w W := by
          rw [← hW]; exact ba (HB.out.setCell (p := ⟨w.heap.size, j, none⟩) (Nat.le_refl _) _) _
        have hszW : W.heap.size = wr.heap.size + 1 := by rw [← hW]; simp
        have HOA2 := Lib.hid oA; have HOO2 := Lib.hid oO; have HBW := Lib.hid bW; have RX := Lib.hid rX; have HZW := Lib.hid hszW
        have x0 : W.cell? ⟨wr.heap.size, 0, none⟩ = some (.string nm) := rX.cell 0
        have x1 : W.cell? ⟨wr.heap.size, 1, none⟩ = some (.int .i64 rp) := rX.cell 1
        have x2 : W.cell? ⟨wr.heap.size, 2, none⟩ = some (.int .i64 kd) := rX.cell 2
        have x3 : W.cell? ⟨wr.heap.size, 3, none⟩ = some (.int .i64 0) := rX.cell 3
        have hszW2 : wr.heap.size < W.heap.size := by omega
        clear hW oA oO bW hszW rX
        have tok1 : True := trivial
        go_upto_region 10 with (first | (at_builtin; have _t := tok1; clear tok1; clear _t; refine wpList_append (B := w.heap.size) rfl _ _ _ _ rfl iF (.agg #[.string ByteArray.empty, .int .i64 0, .int .i64 0, .int .i64 0]) 40 Try.underlying25 hiF hz0F hz1F hz2F rfl rfl (HOO2.out.alloc _) _ rfl _ _ (src_built (e' := 40) Try.underlying25 W #[.string nm, .int .i64 rp, .int .i64 kd, .int .i64 0] 40 1 4 rfl (by simp [Value.oneCell'])) (by simp only [maxLen]; omega) (by omega) (by first | omega | (simp; omega) | simp) ?_; intro a5 cap5 w5 ho5 hc5 hn5); (have HO5 := Lib.hid ho5); (have HC5 := Lib.hid hc5); (have HN5 := Lib.hid hn5); clear ho5 hc5 hn5)
        have hc0 : cnt f (par l) j j = 0 := cnt_self (m := j) (par_lt l) (Nat.le_refl _) (by rw [HPL.out]; omega)
        have ho5 := HO5.out
        rw [show fls (keptG f l j fun a => (cnt f (par l) j a : Int)) ++ #[Value.string nm, .int .i64 rp, .int .i64 kd, .int .i64 0].toList = fls (keptG f l (j + 1) fun a => (cnt f (par l) j a : Int)) from by
          rw [keptG_yes HFJ.out, fls_snoc, HFN.out, hc0]; rfl] at ho5
        have HO6 := Lib.hid ho5
        have HOA6 := Lib.hid ((HOA2.out.alloc (.cells #[.string nm, .int .i64 rp, .int .i64 kd, .int .i64 0] 40)).chg HC5.out (fun k hk h => (HNE.out k h.1).1 (by obtain ⟨_, _, e⟩ := hk; cases e; rfl)))
        have HB6 := Lib.hid (Chg.bt (ba HBW.out (.cells #[.string nm, .int .i64 rp, .int .i64 kd, .int .i64 0] 40)) HC5.out (fun i hi h => by have := h.2.1; omega))
        have HN6 : Hid (∀ k, blk a5 k → k ≠ w.heap.size ∧ k < w5.heap.size) := Lib.hid (fun k hk => ⟨by
          rcases HN5.out k hk with h | h
          · exact (HNE.out k h).1
          · simp at h; omega, (HO6.out.blt' (by omega) hk).2⟩)
        have cp := cb HB6.out HCP.out
        clear ho5 HO5 HC5 HN5 HOA2 HOO2 HBW RX HOO HOA HNE HB hc0 HZW f0 f1 f2 f3 ck x0 x1 x2 x3 hszW2 hszr
        have hsz6 := HB6.out.size
        have hry := rank_yes HFJ.out
        have HRY := Lib.hid hry
        clear hry
        by_cases hq : q < 0
        · go_wp2_with fail
          go_roundw
          case rel =>
            refine ⟨j + 1, a5, cap5, by rw [HRY.out], by go_num, by omega, Lib.hid ?_, HOA6, HN6, HB6⟩
            rw [HRY.out]
            refine (keptG_congr (fun a _ _ => ?_)) ▸ HO6.out
            rw [cnt_succ, if_neg (by rw [HPD.out]; rintro ⟨_, h⟩; omega)]; rfl
          case measure => simp [intOf]; omega
        · obtain ⟨k, rfl⟩ : ∃ k : Nat, q = k := ⟨q.toNat, by omega⟩
          have hkj : k < j := by omega
          have hfk := HF.out j k hlt HFJ.out HPG.out
          have hra := rank_lt (m := j + 1) (show k < j + 1 by omega) hfk
          rw [HRY.out] at hra
          obtain ⟨ga, hga, gb1, gb2, gb3, gb4⟩ := HOA6.out.pos (by omega)
          injection hga with hga; injection hga with hga; subst hga
          have cA2 := gb3 _ _ (atl_get (n := l.length) (i := j + 1) (by omega) (by omega) hfk)
          obtain ⟨go, rfl, go1, go2, go3, go4⟩ := HO6.out.pos (by omega)
          have cO2 := go3 _ _ (fls_kids (keptG_at (l := l) (m := j + 1) (c := fun a => (cnt f (par l) j a : Int)) (by omega) hfk))
          dsimp only at cO2
          have fzO := go4 (rank f k * 4 + 3)
          have hcl : cnt f (par l) j k ≤ j := cnt_le
          have HFK := Lib.hid hfk
          clear gb3 gb4 go3 go4 hfk
          go_wp2_with fail
          go_roundw
          case rel =>
            refine ⟨j + 1, _, cap5, by rw [HRY.out], by go_num, by omega, Lib.hid ?_, Lib.hid ?_, Lib.hid (fun i hi => ⟨(HN6.out i hi).1, by simpa using (HN6.out i hi).2⟩), Lib.hid (HB6.out.setCell (p := ⟨go, rank f k * 4 + 3, none⟩) go1 _)⟩
            · have h := HO6.out.stored rfl (rank f k * 4 + 3) (.int .i64 ((cnt f (par l) j k : Int) + 1))
              rw [keptG_set (by omega) HFK.out] at h
              rw [HRY.out]
              refine (keptG_congr (fun a _ _ => ?_)) ▸ h
              rw [cnt_succ, HPD.out]
              by_cases e : a = k
              · subst e; rw [if_pos rfl, if_pos ⟨HFJ.out, rfl⟩]; rfl
              · rw [if_neg e, if_neg (by rintro ⟨_, h⟩; omega)]; rfl
            · exact HOA6.out.setCell (p := ⟨go, rank f k * 4 + 3, none⟩) (fun i hi => by
                obtain ⟨_, _, e⟩ := hi; cases e; exact fun e => (HN6.out go ⟨_, _, rfl⟩).1 e.symm) _
          case measure => simp [intOf]; omega
    · obtain rfl : j = l.length := by omega
      have HSL := Lib.hid HOO.out.sl
      go_wp2_with fail
      refine (clone_f _ aO (rank f l.length) cO _ wr HSL.out (fls_one _) (by omega)).mono ?_
      rintro e w3 ⟨a', c', rfl, ho, hb⟩
      have HO3 := Lib.hid (ho.mono hszr); have HB3 := Lib.hid (bt HB.out hb)
      clear ho hb
      go_wp2_with fail
      go_ret
      exact ⟨a', c', rfl, HO3.out, HB3.out⟩
end Go.Proofs.Ytgpffcgkfgiodaa
