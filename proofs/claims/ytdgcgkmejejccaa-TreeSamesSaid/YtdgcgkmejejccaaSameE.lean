/-
  The walk of tree.Same: equal functions, by slices.EqualFunc.
-/
import Derived.Test.YtdgcgkmejejccaaSame8
set_option linter.unusedSimpArgs false
namespace Go.Proofs.Ytdgcgkmejejccaa
open Go.RowKit Go.Shr
def EqL (f : FuncId) (g : Value → Value → Array Value) (N : Nat) : Prop := ∀ (l l2 : List Tr), (∀ y ∈ l, y.size < N) → ∀ (a b : Option Addr) (ca cb' : Nat) (ys ys2 : List Value) (w : World),
  Sl (fun b => b < w.heap.size) w 3 a l.length ca ys → RowAt w l ys → Sl (fun b => b < w.heap.size) w 3 b l2.length cb' ys2 → RowAt w l2 ys2 →
  Calls Try.prog f (g (.slice a l.length ca) (.slice b l2.length cb')) w fun e w' => e = .returned (.bool (sameL l l2)) ∧ Below w.heap.size w w'
def EqK (f : FuncId) (g : Value → Value → Array Value) (N : Nat) : Prop := ∀ (l l2 : List (List Tr)), (∀ k ∈ l, ∀ y ∈ k, y.size < N) → ∀ (a b : Option Addr) (ca cb' : Nat) (ys ys2 : List Value) (w : World),
  Sl (fun b => b < w.heap.size) w 1 a l.length ca ys → KidAt w l ys → Sl (fun b => b < w.heap.size) w 1 b l2.length cb' ys2 → KidAt w l2 ys2 →
  Calls Try.prog f (g (.slice a l.length ca) (.slice b l2.length cb')) w fun e w' => e = .returned (.bool (sameK l l2)) ∧ Below w.heap.size w w'
theorem sameL_len {l l2 : List Tr} (h : l.length ≠ l2.length) : sameL l l2 = false := by
  cases hh : sameL l l2 with
  | false => rfl
  | true => exact absurd (congrArg List.length ((sameL_iff l l2).1 hh)) h
set_option maxHeartbeats 4000000 in
set_option maxRecDepth 100000 in
theorem eql_v (N : Nat) (IH : SameTo 20 N) : EqL 32 (fun x y => #[x, y, .func (.func 20) #[] #[]]) N := by
  intro l l2 hmem a b ca cb' ys ys2 w hys hrow hys2 hrow2
  have hmy := Nat.le_trans hys.le hys.max
  have hmy2 := Nat.le_trans hys2.le hys2.max
  unfold maxLen at hmy hmy2
  have HYS := Lib.hid hys; have HROW := Lib.hid hrow; have HYS2 := Lib.hid hys2; have HROW2 := Lib.hid hrow2; have HMEM := Lib.hid hmem; have HIH := Lib.hid IH
  clear hys hrow hys2 hrow2 hmem IH
  show Calls _ _ #[_, _, .func (.func 20) #[] #[]] _ _
  go_enter Try.func32, Try.ntmps32
  by_cases hll : l.length = l2.length
  · have hlb : ((l.length : Int) != (l2.length : Int)) = false := by simp [hll]
    have HLL := Lib.hid hll
    have HE2 : Hid (sameL l l2 = sameL (l.drop 0) (l2.drop 0)) := Lib.hid rfl
    clear hll
    go_wp2_with fail
    clear hlb
    go_loopw [17] (fun iv wr => ∃ k : Nat, iv = .int .i64 (k : Int) ∧ k ≤ l.length ∧ Hid (sameL l l2 = sameL (l.drop k) (l2.drop k)) ∧ Hid (Below w.heap.size w wr)) (fun iv _ => l.length - (intOf iv).toNat)
    case atStart => exact ⟨0, rfl, Nat.zero_le _, HE2, Lib.hid (b0 w)⟩
    case round =>
      clear HE2
      obtain ⟨k, rfl, hk, HE3, HB3⟩ := hrel
      by_cases hkl : k < l.length
      · have hkl2 : k < l2.length := by have := HLL.out; omega
        obtain ⟨yb, yoff, rfl, hyb, hyc⟩ := HYS.out.pos (by omega)
        obtain ⟨ka, _, kcap, kxs, v0, v1, v2, rfl, hks, hsl, hkid⟩ := HROW.out.get k hkl
        have hTk : TrAt w l[k] [.int .i64 l[k].n, .string l[k].s, .slice ka l[k].kids.length kcap] := TrAt.mk' hks hsl hkid
        obtain ⟨yb2, yoff2, rfl, hyb2, hyc2⟩ := HYS2.out.pos (by omega)
        obtain ⟨ka2, _, kcap2, kxs2, x0, x1, x2, rfl, hks2, hsl2, hkid2⟩ := HROW2.out.get k hkl2
        have hTk2 : TrAt w l2[k] [.int .i64 l2[k].n, .string l2[k].s, .slice ka2 l2[k].kids.length kcap2] := TrAt.mk' hks2 hsl2 hkid2
        replace v0 := cb HB3.out (hyc _ _ v0); replace v1 := cb HB3.out (hyc _ _ v1); replace v2 := cb HB3.out (hyc _ _ v2)
        replace x0 := cb HB3.out (hyc2 _ _ x0); replace x1 := cb HB3.out (hyc2 _ _ x1); replace x2 := cb HB3.out (hyc2 _ _ x2)
        rw [← Nat.add_assoc] at v1 v2 x1 x2
        have HDL := Lib.hid (sameL_drop l l2 k hkl hkl2)
        have hsz3 : l[k].size < N := HMEM.out _ (List.getElem_mem hkl)
        have HT := Lib.hid hTk; have HT2 := Lib.hid hTk2
        generalize l[k] = p at *
        generalize l2[k] = q at *
        clear hyc hks hsl hkid hTk hyc2 hks2 hsl2 hkid2 hTk2
        have hkt : (k : Int) < (l.length : Int) := by omega
        have hku : (k : Int) < (l2.length : Int) := by omega
        have hk0 : (0 : Int) ≤ (k : Int) := by omega
        have hyb3 : yb < wr.heap.size := by have := HB3.out.size; omega
        have hyb4 : yb2 < wr.heap.size := by have := HB3.out.size; omega
        have hq : ∀ A : Obj, (wr.alloc A).cell? ⟨yb2, yoff2 + k * 3, none⟩ = some (.int .i64 q.n) ∧ (wr.alloc A).cell? ⟨yb2, yoff2 + k * 3 + 1, none⟩ = some (.string q.s) ∧ (wr.alloc A).cell? ⟨yb2, yoff2 + k * 3 + 2, none⟩ = some (.slice ka2 q.kids.length kcap2) := fun A => ⟨((ba (b0 wr) A).cell (p := ⟨yb2, yoff2 + k * 3, none⟩) hyb4).trans x0, ((ba (b0 wr) A).cell (p := ⟨yb2, yoff2 + k * 3 + 1, none⟩) hyb4).trans x1, ((ba (b0 wr) A).cell (p := ⟨yb2, yoff2 + k * 3 + 2, none⟩) hyb4).trans x2⟩
        go_upto_region 7 with fail
        have HB7 := Lib.hid (ba (ba HB3.out (.cells #[.int .i64 p.n, .string p.s, .slice ka p.kids.length kcap] 25)) (.cells #[.int .i64 q.n, .string q.s, .slice ka2 q.kids.length kcap2] 25))
        have r7 := (Rw.new wr #[.int .i64 p.n, .string p.s, .slice ka p.kids.length kcap] 25).alloc (.cells #[.int .i64 q.n, .string q.s, .slice ka2 q.kids.length kcap2] 25)
        have r8 : Rw ((wr.alloc (.cells #[.int .i64 p.n, .string p.s, .slice ka p.kids.length kcap] 25)).alloc (.cells #[.int .i64 q.n, .string q.s, .slice ka2 q.kids.length kcap2] 25)) (wr.heap.size + 1) _ _ := Rw.new' (by simp)
        generalize ((wr.alloc (.cells #[.int .i64 p.n, .string p.s, .slice ka p.kids.length kcap] 25)).alloc (.cells #[.int .i64 q.n, .string q.s, .slice ka2 q.kids.length kcap2] 25)) = w7 at *
        clear v0 v1 v2 x0 x1 x2 hq
        have v0 := r7.cell 0; have v1 := r7.cell 1; have v2 := r7.cell 2
        have x0 := r8.cell 0; have x1 := r8.cell 1; have x2 := r8.cell 2
        simp only [List.getElem?_toArray, List.getElem?_cons_zero, List.getElem?_cons_succ] at v0 v1 v2 x0 x1 x2
        go_wp2_with fail
        refine (HIH.out p q hsz3 ka ka2 kcap kcap2 _ (TrAt.below HB7.out _ _ HT.out) (TrAt.below HB7.out _ _ HT2.out)).mono ?_
        rintro e w4 ⟨rfl, hb4⟩
        have HB5 := Lib.hid (bt HB7.out hb4)
        clear hb4 v0 v1 v2 x0 x1 x2 r7 r8
        cases hst : sameT p q with
        | true =>
          have HE5 : Hid (sameL l l2 = sameL (l.drop (k + 1)) (l2.drop (k + 1))) := Lib.hid (by rw [HE3.out, HDL.out, hst, Bool.true_and])
          clear hst
          go_wp2_with fail
          go_roundw
          case rel => exact ⟨k + 1, by go_num, by omega, HE5, HB5⟩
          case measure => simp [intOf]; omega
        | false =>
          have HE5 : Hid (sameL l l2 = false) := Lib.hid (by rw [HE3.out, HDL.out, hst, Bool.false_and])
          clear hst
          go_wp2_with fail
          go_ret
          exact ⟨ret_bo HE5.out.symm, HB5.out⟩
      · have hkl' : ¬ (k : Int) < (l.length : Int) := by omega
        have HE5 : Hid (sameL l l2 = true) := Lib.hid (by
          have e1 : l.drop k = [] := List.drop_eq_nil_of_le (by omega)
          have e2 : l2.drop k = [] := List.drop_eq_nil_of_le (by have := HLL.out; omega)
          rw [HE3.out, e1, e2]; rfl)
        go_wp2_with fail
        go_ret
        exact ⟨ret_bo HE5.out.symm, HB3.out⟩
  · have hlb : ((l.length : Int) != (l2.length : Int)) = true := by simp; omega
    have HE5 : Hid (sameL l l2 = false) := Lib.hid (sameL_len hll)
    clear hll
    go_wp2_with fail
    go_ret
    exact ⟨ret_bo HE5.out.symm, b0 w⟩
theorem sameK_len' {l l2 : List (List Tr)} (h : l.length ≠ l2.length) : sameK l l2 = false := by
  cases hh : sameK l l2 with
  | false => rfl
  | true => exact absurd (congrArg List.length ((sameK_iff l l2).1 hh)) h
theorem same1_v (N : Nat) (IH : SameTo 20 N) : EqL 31 (fun x y => #[x, y]) N := by
  intro l l2 hmem a b ca cb' ys ys2 w hys hrow hys2 hrow2
  have H := Lib.hid (eql_v N IH l l2 hmem a b ca cb' ys ys2 w hys hrow hys2 hrow2)
  clear hys hrow hys2 hrow2 hmem IH
  show Calls _ _ #[_, _] _ _
  go_enter Try.func31, Try.ntmps31
  go_wp2_with fail
  refine H.out.mono ?_
  rintro e w4 ⟨rfl, hb4⟩
  go_wp2_with fail
  go_ret
  exact ⟨rfl, hb4⟩
set_option maxHeartbeats 4000000 in
set_option maxRecDepth 100000 in
theorem eqk_v (N : Nat) (IH : EqL 31 (fun x y => #[x, y]) N) : EqK 30 (fun x y => #[x, y, .func (.func 31) #[] #[]]) N := by
  intro l l2 hmem a b ca cb' ys ys2 w hys hrow hys2 hrow2
  have hmy := Nat.le_trans hys.le hys.max
  have hmy2 := Nat.le_trans hys2.le hys2.max
  unfold maxLen at hmy hmy2
  have HYS := Lib.hid hys; have HROW := Lib.hid hrow; have HYS2 := Lib.hid hys2; have HROW2 := Lib.hid hrow2; have HMEM := Lib.hid hmem; have HIH := Lib.hid IH
  clear hys hrow hys2 hrow2 hmem IH
  show Calls _ _ #[_, _, .func (.func 31) #[] #[]] _ _
  go_enter Try.func30, Try.ntmps30
  by_cases hll : l.length = l2.length
  · have hlb : ((l.length : Int) != (l2.length : Int)) = false := by simp [hll]
    have HLL := Lib.hid hll
    have HE2 : Hid (sameK l l2 = sameK (l.drop 0) (l2.drop 0)) := Lib.hid rfl
    clear hll
    go_wp2_with fail
    clear hlb
    go_loopw [17] (fun iv wr => ∃ k : Nat, iv = .int .i64 (k : Int) ∧ k ≤ l.length ∧ Hid (sameK l l2 = sameK (l.drop k) (l2.drop k)) ∧ Hid (Below w.heap.size w wr)) (fun iv _ => l.length - (intOf iv).toNat)
    case atStart => exact ⟨0, rfl, Nat.zero_le _, HE2, Lib.hid (b0 w)⟩
    case round =>
      clear HE2
      obtain ⟨k, rfl, hk, HE3, HB3⟩ := hrel
      by_cases hkl : k < l.length
      · have hkl2 : k < l2.length := by have := HLL.out; omega
        obtain ⟨yb, yoff, rfl, hyb, hyc⟩ := HYS.out.pos (by omega)
        obtain ⟨ka, kcap, kxs, v0, hs1, hr1⟩ := HROW.out.get k hkl
        obtain ⟨yb2, yoff2, rfl, hyb2, hyc2⟩ := HYS2.out.pos (by omega)
        obtain ⟨ka2, kcap2, kxs2, x0, hs2, hr2⟩ := HROW2.out.get k hkl2
        replace v0 := cb HB3.out (hyc _ _ v0)
        replace x0 := cb HB3.out (hyc2 _ _ x0)
        have HDL := Lib.hid (sameK_drop l l2 k hkl hkl2)
        have hsz3 : ∀ y ∈ l[k], y.size < N := HMEM.out _ (List.getElem_mem hkl)
        have HS1 := Lib.hid hs1; have HS2 := Lib.hid hs2; have HR1 := Lib.hid hr1; have HR2 := Lib.hid hr2; have HSZ := Lib.hid hsz3
        generalize l[k] = p at *
        generalize l2[k] = q at *
        clear hyc hyc2 hs1 hs2 hr1 hr2 hsz3
        have hkt : (k : Int) < (l.length : Int) := by omega
        have hku : (k : Int) < (l2.length : Int) := by omega
        have hk0 : (0 : Int) ≤ (k : Int) := by omega
        go_wp2_with fail
        refine (HIH.out p q HSZ.out ka ka2 kcap kcap2 _ _ wr (slb HS1.out HB3.out) (RowAt.below HB3.out _ _ HR1.out) (slb HS2.out HB3.out) (RowAt.below HB3.out _ _ HR2.out)).mono ?_
        rintro e w4 ⟨rfl, hb4⟩
        have HB5 := Lib.hid (bt HB3.out hb4)
        clear hb4 v0 x0
        cases hst : sameL p q with
        | true =>
          have HE5 : Hid (sameK l l2 = sameK (l.drop (k + 1)) (l2.drop (k + 1))) := Lib.hid (by rw [HE3.out, HDL.out, hst, Bool.true_and])
          clear hst
          go_wp2_with fail
          go_roundw
          case rel => exact ⟨k + 1, by go_num, by omega, HE5, HB5⟩
          case measure => simp [intOf]; omega
        | false =>
          have HE5 : Hid (sameK l l2 = false) := Lib.hid (by rw [HE3.out, HDL.out, hst, Bool.false_and])
          clear hst
          go_wp2_with fail
          go_ret
          exact ⟨ret_bo HE5.out.symm, HB5.out⟩
      · have hkl' : ¬ (k : Int) < (l.length : Int) := by omega
        have HE5 : Hid (sameK l l2 = true) := Lib.hid (by
          have e1 : l.drop k = [] := List.drop_eq_nil_of_le (by omega)
          have e2 : l2.drop k = [] := List.drop_eq_nil_of_le (by have := HLL.out; omega)
          rw [HE3.out, e1, e2]; rfl)
        go_wp2_with fail
        go_ret
        exact ⟨ret_bo HE5.out.symm, HB3.out⟩
  · have hlb : ((l.length : Int) != (l2.length : Int)) = true := by simp; omega
    have HE5 : Hid (sameK l l2 = false) := Lib.hid (sameK_len' hll)
    clear hll
    go_wp2_with fail
    go_ret
    exact ⟨ret_bo HE5.out.symm, b0 w⟩
set_option maxHeartbeats 4000000 in
set_option maxRecDepth 100000 in
theorem tsame_step (N : Nat) (IH : SameTo 20 N) : SameTo 20 (N + 1) := by
  intro t u hN a b ca cb' w hT hU
  obtain ⟨_, _, _, xs, hcs, hm, hs, hsl, hk⟩ := hT.parts
  simp at hcs
  obtain ⟨rfl, rfl, rfl⟩ := hcs
  obtain ⟨_, _, _, ys, hcs, hm2, hs2, hsl2, hk2⟩ := hU.parts
  simp at hcs
  obtain ⟨rfl, rfl, rfl⟩ := hcs
  have hmem : ∀ k ∈ t.kids, ∀ y ∈ k, y.size < N := fun k hk y hy => by have := kid_size hk hy; omega
  have HBX := Lib.hid (ba (ba (b0 w) (.cells #[.int .i64 t.n, .string t.s, .slice a t.kids.length ca] 25)) (.cells #[.int .i64 u.n, .string u.s, .slice b u.kids.length cb'] 25))
  have H := Lib.hid (eqk_v N (same1_v N IH) t.kids u.kids hmem a b ca cb' xs ys _ (slb hsl HBX.out) (KidAt.below HBX.out _ _ hk) (slb hsl2 HBX.out) (KidAt.below HBX.out _ _ hk2))
  have HE := Lib.hid (sameT_eq t u)
  clear hsl hk hsl2 hk2 IH hT hU hm hm2 hmem
  go_enter Try.func20, Try.ntmps20
  have bb : ∀ w : World, Below w.heap.size w ((w.alloc (.cells #[.int .i64 t.n, .string t.s, .slice a t.kids.length ca] 25)).alloc (.cells #[.int .i64 u.n, .string u.s, .slice b u.kids.length cb'] 25)) := fun w => ba (ba (b0 w) _) _
  cases h1 : (t.n == u.n) with
  | false =>
    have HE2 : Hid (sameT t u = false) := Lib.hid (by rw [HE.out, h1]; rfl)
    go_wp2_with fail
    go_ret
    exact ⟨ret_bo HE2.out.symm, bb w⟩
  | true =>
    cases h2 : (t.s.toList == u.s.toList) with
    | false =>
      have HE2 : Hid (sameT t u = false) := Lib.hid (by rw [HE.out, h1, h2]; rfl)
      go_wp2_with fail
      go_ret
      exact ⟨ret_bo HE2.out.symm, bb w⟩
    | true =>
      have HE2 : Hid (sameT t u = sameK t.kids u.kids) := Lib.hid (by rw [HE.out, h1, h2]; rfl)
      go_wp2_with fail
      refine H.out.mono ?_
      rintro e w4 ⟨rfl, hb4⟩
      have HB5 := Lib.hid (bt HBX.out hb4)
      clear hb4
      go_wp2_with fail
      go_ret
      exact ⟨ret_bo HE2.out.symm, HB5.out⟩
theorem tsame_all : ∀ N, SameTo 20 N
  | 0 => fun t u h => by omega
  | N + 1 => tsame_step N (tsame_all N)
end Go.Proofs.Ytdgcgkmejejccaa
