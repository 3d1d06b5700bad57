/-
  The walks of the reference's Compare and Join.
-/
import Derived.Test.YtnmlngpkhlafgaaStat
namespace Go.Shr
theorem str_len (s : ByteArray) : s.toList.length = s.size := by rw [ByteArray.toList_eq]; simp
theorem str_get (s : ByteArray) (q : Nat) (h : q < s.size) : s.toList[q]? = some s[q] := by
  rw [ByteArray.toList_eq]; simp [h]; rfl
theorem str_split (s : ByteArray) (q : Nat) (h : q < s.size) : s.toList = s.toList.take q ++ s[q] :: s.toList.drop (q + 1) := by
  have hl : q < s.toList.length := by rw [str_len]; exact h
  have := str_get s q h
  rw [List.getElem?_eq_getElem hl] at this
  conv => lhs; rw [← List.take_append_drop q s.toList, List.drop_eq_getElem_cons hl, Option.some.inj this]
theorem cmpL_diff : ∀ (p : List UInt8) (x y : UInt8) (xs ys : List UInt8), x ≠ y → cmpL (p ++ x :: xs) (p ++ y :: ys) = cmpI x.toNat y.toNat
  | [], x, y, xs, ys, h => by
    unfold cmpL cmpI
    simp only [List.nil_append, Op.bytesLess]
    have h1 : (x == y) = false := by simpa using h
    rw [h1]
    by_cases hl : x < y
    · have : x.toNat < y.toNat := UInt8.lt_iff_toNat_lt.1 hl
      rw [if_pos (by simp [hl]), if_pos (by omega)]
    · have h2 : ¬ x.toNat < y.toNat := fun h => hl (UInt8.lt_iff_toNat_lt.2 h)
      have h3 : x.toNat ≠ y.toNat := fun h' => h (UInt8.toNat_inj.1 h')
      rw [if_neg (by simp [hl]), if_neg (by simp [h]), if_neg (by omega), if_pos (by omega)]
  | a :: p, x, y, xs, ys, h => by
    have := cmpL_diff p x y xs ys h
    unfold cmpL at this ⊢
    simp only [List.cons_append, Op.bytesLess]
    simpa using this
theorem cmpL_front : ∀ (p s : List UInt8), cmpL p (p ++ s) = cmpI p.length (p ++ s).length ∧ cmpL (p ++ s) p = cmpI (p ++ s).length p.length
  | [], [] => ⟨rfl, rfl⟩
  | [], b :: s => by
    unfold cmpL cmpI
    simp only [List.nil_append, Op.bytesLess, List.length_nil, List.length_cons]
    constructor
    · rw [if_pos trivial, if_pos (by omega)]
    · rw [if_neg (by decide), if_neg (by simp), if_neg (by omega), if_pos (by omega)]
  | a :: p, s => by
    have := cmpL_front p s
    unfold cmpL cmpI at this ⊢
    simp only [List.cons_append, Op.bytesLess, List.length_cons]
    constructor
    · have h := this.1
      simp only [List.length_append] at h ⊢
      simpa using h
    · have h := this.2
      simp only [List.length_append] at h ⊢
      simpa using h
end Go.Shr
namespace Go.Proofs.Ytnmlngpkhlafgaa
open Go.RowKit Go.Shr
theorem order_i (a b : Int) (w : World) : Calls Try.prog 22 #[.int .i64 a, .int .i64 b] w fun e w' => e = .returned (.int .i64 (cmpI a b)) ∧ w = w' := by
  have H := Lib.hid (show cmpI a b = if a < b then -1 else if b < a then 1 else 0 from rfl)
  go_enter Try.func22, Try.ntmps22
  go_wp2
  all_goals go_ret
  · refine ⟨ret_i64 ?_, rfl⟩; rw [H.out, if_pos (by assumption)]
  · refine ⟨ret_i64 ?_, rfl⟩; rw [H.out, if_neg (by omega), if_pos (by omega)]
  · refine ⟨ret_i64 ?_, rfl⟩; rw [H.out, if_neg (by omega), if_neg (by omega)]
theorem order_q (a b : Int) (w : World) : Calls Try.prog 22 #[.int .i64 a, .int .i64 b] w fun e w' => e = .returned (.int .i64 (cmpI a b)) ∧ w' = w := (order_i a b w).mono fun _ _ h => ⟨h.1, h.2.symm⟩
set_option maxHeartbeats 1000000 in
theorem rcompare_v (k : Int) (x y : Vl) (w : World) (hx : x.s.size ≤ 1000) (hy : y.s.size ≤ 1000) : Calls Try.prog 17 #[.int .i64 k, .agg #[.int .i64 x.n, .string x.s], .agg #[.int .i64 y.n, .string y.s]] w fun e w' => e = .returned (.int .i64 (cmpV k x y)) ∧ Below w.heap.size w w' := by
  have H := Lib.hid (show cmpV k x y = if k = 4 then cmpL x.s.toList y.s.toList else cmpI x.n y.n from rfl)
  obtain ⟨xn, xs⟩ := x
  obtain ⟨yn, ys⟩ := y
  simp only at *
  by_cases hk : k = 4
  · have hkb : (k != 4) = false := by rw [hk]; rfl
    have HK := Lib.hid hk; clear hk
    go_enter Try.func17, Try.ntmps17
    go_wp2_with fail
    go_loopw [7] (fun i wr => ∃ q : Nat, i = .int .i64 q ∧ q ≤ xs.size ∧ q ≤ ys.size ∧ Hid (xs.toList.take q = ys.toList.take q) ∧ Below w.heap.size w wr ∧ w.heap.size + 1 < wr.heap.size ∧
        wr.cell? ⟨w.heap.size, 1, none⟩ = some (.string xs) ∧ wr.cell? ⟨w.heap.size + 1, 1, none⟩ = some (.string ys))
      (fun i _ => xs.size - (intOf i).toNat)
    case atStart => exact ⟨0, rfl, Nat.zero_le _, Nat.zero_le _, Lib.hid rfl, ba (ba (Below.refl _ _) _) _, by simp, by simp, by simp⟩
    case round =>
      obtain ⟨q, rfl, hqx, hqy, HT, hb, hsz, hc1, hc2⟩ := hrel
      by_cases h1 : q < xs.size
      · by_cases h2 : q < ys.size
        · have hq0 : (0 : Int) ≤ (q : Int) := by omega
          have hq1 : (q : Int) < (xs.size : Int) := by omega
          have hq2 : (q : Int) < (ys.size : Int) := by omega
          have hxl : xs.toList.length = xs.size := by rw [ByteArray.toList_eq]; simp
          have hyl : ys.toList.length = ys.size := by rw [ByteArray.toList_eq]; simp
          have hgx := str_get xs q h1
          have hgy := str_get ys q h2
          have HSX := Lib.hid (str_split xs q h1)
          have HSY := Lib.hid (str_split ys q h2)
          have HX := Lib.hid hgx; have HY := Lib.hid hgy; have HXL := Lib.hid hxl; have HYL := Lib.hid hyl; clear hgx hgy hxl hyl
          by_cases hbe : xs[q] = ys[q]
          · have hne : ((xs[q].toNat : Int) != (ys[q].toNat : Int)) = false := by rw [hbe]; simp
            have HBE := Lib.hid hbe; clear hbe
            go_wp2_with fail
            go_quiet (fail)
            go_wp2
            go_roundw
            case rel =>
              refine ⟨q + 1, by go_num, by omega, by omega, Lib.hid ?_, below_drewN hb _, hsz, by simpa using hc1, by simpa using hc2⟩
              rw [List.take_add_one, List.take_add_one, HT.out, HX.out, HY.out, HBE.out]
            case measure => simp [intOf]; omega
          · have hne : ((xs[q].toNat : Int) != (ys[q].toNat : Int)) = true := by
              rw [bne_iff_ne]; intro h; exact hbe (UInt8.toNat_inj.1 (by omega))
            have HBE := Lib.hid hbe; clear hbe
            go_wp2_with fail
            go_quiet (fail)
            have hbn := below_drewN hb nq
            have hc1n : (wr.drewN nq).cell? ⟨w.heap.size, 1, none⟩ = some (.string xs) := hc1
            have hc2n : (wr.drewN nq).cell? ⟨w.heap.size + 1, 1, none⟩ = some (.string ys) := hc2
            clear hc1 hc2 hb hsz
            generalize wr.drewN nq = wq at *
            go_wp2_with fail
            go_quiet ((go_at_call 22; exact Calls.quiet_of_same (order_q _ _ _)))
            go_wp2
            go_ret
            refine ⟨ret_i64 ?_, below_drewN hbn _⟩
            rw [H.out, if_pos HK.out, HSX.out, HSY.out, HT.out, cmpL_diff _ _ _ _ _ HBE.out]
            have b1 := xs[q].toNat_lt
            have b2 := ys[q].toNat_lt
            rw [show wrap64 (xs[q].toNat : Int) = xs[q].toNat by simp only [wrap64]; omega, show wrap64 (ys[q].toNat : Int) = ys[q].toNat by simp only [wrap64]; omega]
        · have hq : q = ys.size := by omega
          have HF : Hid (cmpL xs.toList ys.toList = cmpI xs.size ys.size) := by
            have e1 : ys.toList.take q = ys.toList := List.take_of_length_le (by rw [str_len]; omega)
            have e2 := List.take_append_drop q xs.toList
            rw [HT.out, e1] at e2
            have := (cmpL_front ys.toList (xs.toList.drop q)).2
            rw [e2, str_len, str_len] at this
            exact this
          have HQ := Lib.hid hq; clear hq
          go_wp2_with fail
          refine (order_i _ _ _).mono ?_
          rintro e w' ⟨rfl, rfl⟩
          go_wp2
          go_ret
          exact ⟨ret_i64 (by rw [H.out, if_pos HK.out, HF.out]), hb⟩
      · have hq : q = xs.size := by omega
        have HF : Hid (cmpL xs.toList ys.toList = cmpI xs.size ys.size) := by
          have e1 : xs.toList.take q = xs.toList := List.take_of_length_le (by rw [str_len]; omega)
          have e2 := List.take_append_drop q ys.toList
          rw [← HT.out, e1] at e2
          have := (cmpL_front xs.toList (ys.toList.drop q)).1
          rw [e2, str_len, str_len] at this
          exact this
        have HQ := Lib.hid hq; clear hq
        go_wp2_with fail
        refine (order_i _ _ _).mono ?_
        rintro e w' ⟨rfl, rfl⟩
        go_wp2
        go_ret
        exact ⟨ret_i64 (by rw [H.out, if_pos HK.out, HF.out]), hb⟩
  · have hkb : (k != 4) = true := by rw [bne_iff_ne]; exact hk
    have HK := Lib.hid hk; clear hk
    go_enter Try.func17, Try.ntmps17
    go_wp2_with fail
    refine (order_i _ _ _).mono ?_
    rintro e w' ⟨rfl, rfl⟩
    go_wp2
    go_ret
    exact ⟨ret_i64 (by rw [H.out, if_neg HK.out]), ba (ba (Below.refl _ _) _) _⟩
end Go.Proofs.Ytnmlngpkhlafgaa
