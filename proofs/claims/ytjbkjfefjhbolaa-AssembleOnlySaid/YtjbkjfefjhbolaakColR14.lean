import Derived.Test.YtjbkjfefjhbolaakRBeg14
import Derived.Test.YtjbkjfefjhbolaakFitR2
import Derived.Test.YtjbkjfefjhbolaakMake8
import Derived.Test.YtjbkjfefjhbolaakCols14
import Derived.Test.YtjbkjfefjhbolaakLCols14
set_option linter.unusedSimpArgs false
set_option linter.unusedVariables false
namespace Go.Proofs.Ytjbkjfefjhbolaa
open Go.RowKit Go.Shr
theorem fldX_cnt50 {g : Nat → Tr → List Cel} {r deep B : Nat} {e : List Cel} (hB : 1 ≤ B) (he : e.length ≤ 1) : ∀ (x : List Tr), x.length ≤ 50 → (∀ r', ∀ t ∈ x, (g r' t).length ≤ B) → (fldX g r deep e x).length ≤ 50 * B
 | [], _, _ => by simp only [fldX]; omega
 | t :: ts, h3, h => by
  have h1 := h r t (by simp)
  have h2 := flatMap_le (g := g deep) ts fun u hu => h deep u (by simp [hu])
  simp only [List.length_cons] at h3
  have h4 : ts.length * B ≤ 49 * B := Nat.mul_le_mul_right _ (by omega)
  simp only [fldX, List.length_append]
  omega
theorem pow50_pos (n : Nat) : 1 ≤ 50 ^ n := Nat.one_le_pow _ _ (by decide)
mutual
theorem valC_50 {lf : Nat} : ∀ (s : Sh) (i d deep r : Nat) (t : Tr), shT s t → (valC lf i d deep r s t).length ≤ 50 ^ hgt s
 | .mk nm rp kd ks, i, d, deep, r, t, h => by
  simp only [shT] at h
  simp only [valC, hgt]
  split
  ·split
   ·simpa using pow50_pos _
   ·simp
  ·rename_i hk
   exact kidC_50 ks (i + 1) d deep r t.kids (h (Decidable.byContradiction hk))
theorem kidC_50 {lf : Nat} : ∀ (ks : List Sh) (o d deep r : Nat) (xs : List (List Tr)), shK ks xs → (kidC lf o d deep r ks xs).length ≤ 50 ^ hgtL ks
 | [], o, d, deep, r, xs, h => by simp [kidC]
 | s :: q, o, d, deep, r, [], h => by simp [kidC]
 | s :: q, o, d, deep, r, x :: xs, h => by
  simp only [shK] at h
  rw [kidC_cons, List.length_append]
  simp only [hgtL]
  have m1 : hgt s + 1 ≤ Nat.max (hgt s + 1) (hgtL q) := Nat.le_max_left _ _
  have m2 : hgtL q ≤ Nat.max (hgt s + 1) (hgtL q) := Nat.le_max_right _ _
  have p1 : 50 ^ (hgt s + 1) ≤ 50 ^ Nat.max (hgt s + 1) (hgtL q) := Nat.pow_le_pow_right (by decide) m1
  have p2 : 50 ^ hgtL q ≤ 50 ^ Nat.max (hgt s + 1) (hgtL q) := Nat.pow_le_pow_right (by decide) m2
  by_cases hr : o ≤ lf ∧ lf < o + s.size
  ·rw [kidC_out q (o + s.size) d deep r xs (by omega)]
   have := fldX_cnt50 (g := fun r' u => valC lf o (d + dmI s.rep) (deep + rmI s.rep) r' s u) (r := r) (deep := deep + rmI s.rep) (pow50_pos (hgt s)) (noneC_len lf o s r d) x h.1 (fun r' t ht => valC_50 s o _ _ r' t (h.2.1 t ht))
   unfold fldC
   rw [Nat.pow_succ] at p1
   simp only [List.length_nil]
   omega
  ·rw [fldC_out s o d deep r x hr]
   have := kidC_50 (lf := lf) q (o + s.size) d deep r xs h.2.2
   simp only [List.length_nil]
   omega
end
theorem rval_all (q : WP) {sh : Sh} (hS : Sch q.p.l sh) (hl : q.p.lfs = leafs q.p.l q.p.l.length) (hll : q.p.l.length ≤ 1000) : ∀ (N : Nat) (s : Sh), s.size ≤ N → RVOk q s
 | 0, .mk _ _ _ _, h => by simp [Sh.size] at h
 | N + 1, .mk nm rp kd ks, h => by
  by_cases hk : kd = 0
  ·subst hk
   simp only [Sh.size] at h
   refine rval_grp q hS hl hll nm rp ks (fun s hs => rval_all q hS hl hll N s ?_)
   have : ∀ (q : List Sh), s ∈ q → s.size ≤ shSizes q := by
    intro q
    induction q with
    | nil => intro h; cases h
    | cons x q ih =>
     intro h
     rcases List.mem_cons.1 h with rfl | h
     ·simp [shSizes]
     ·have := ih h; simp only [shSizes]; omega
   have := this ks hs
   omega
  ·exact rval_leaf q hS hl hll _ hk
theorem rowsC_take_le (lf : Nat) (sh : Sh) (rows : List Tr) (i : Nat) : (rowsC lf sh (rows.take i)).length ≤ (rowsC lf sh rows).length := by
 conv => rhs; rw [← List.take_append_drop i rows]
 unfold rowsC
 rw [List.flatMap_append, List.length_append]; omega
def RColsQ (l : List Fl) (sh : Sh) (rows : List Tr) (w : World) (e : Ending) (w' : World) : Prop :=
 Below w.heap.size w w' ∧ (colsE l sh rows ≠ 0 ∧ e = .returned (.tuple #[.slice none 0 0, .int .i64 (colsE l sh rows)]) ∨
  colsE l sh rows = 0 ∧ ∃ (B bc cap : Nat) (cur : Array Value) (aa : Nat → Option Addr) (cc : Nat → Nat), e = .returned (.tuple #[.slice (some ⟨bc, 0, none⟩) (leafs l l.length).length cap, .int .i64 0]) ∧ w.heap.size ≤ bc ∧ cap ≤ maxLen ∧
   RT B w' bc (leafs l l.length).length cap (fun k => rowsC ((leafs l l.length).getD k 0) sh rows) cur aa cc)
set_option maxHeartbeats 2000000 in
set_option maxRecDepth 100000 in
theorem RCols_v {l : List Fl} {sh : Sh} (hS : Sch l sh) (hh : hgt sh ≤ 5) (hr0 : sh.rep = 0) (hrp : ∀ x ∈ l, x.rep = 0 ∨ x.rep = 1 ∨ x.rep = 2) (rows : List Tr) (sa ra : Option Addr) (sc rc : Nat) (ys : List Value) (w : World) (hs : Sl (fun b => b < w.heap.size) w 4 sa l.length sc (fls l))
  (hr : Sl (fun b => b < w.heap.size) w 3 ra rows.length rc ys) (hrow : RowG (fun b => b < w.heap.size) w rows ys) :
  Calls Try.prog 13 #[.slice sa l.length sc, .slice ra rows.length rc] w (RColsQ l sh rows w) := by
 have hn : l.length ≤ 1000 := by have := hS.len; have := hS.size; omega
 have hrm : rows.length ≤ maxLen := Nat.le_trans hr.le hr.max
 unfold maxLen at hrm
 have HS := Lib.hid hs; have HSC := Lib.hid hS; have HRP := Lib.hid hrp; have HR := Lib.hid hr; have HROW := Lib.hid hrow; have HH := Lib.hid hh; have HR0 := Lib.hid hr0
 clear hs hS hrp hr hrow hh hr0
 go_enter Try.func13, Try.ntmps13
 go_upto_region 1 with fail
 by_cases h200 : 200 < rows.length
 ·have HN : Hid (colsE l sh rows = 4) := Lib.hid (by unfold colsE; rw [if_pos h200])
  go_wp2_with fail
  refine bodyPost_ret (v := .tuple #[.slice none 0 0, .int .i64 4]) (by simp [results, Try.results13, go_sem]) rfl ?_
  exact ⟨b0 w, .inl ⟨by rw [HN.out]; decide, by rw [HN.out]⟩⟩
 ·have H200 := Lib.hid h200
  have hdb : (decide (200 < (rows.length : Int))) = false := decide_eq_false (by omega)
  go_wp2_with fail
  clear hdb
  go_loopw [6] (fun iv wr => ∃ i : Nat, iv = .int .i64 (i : Int) ∧ i ≤ rows.length ∧ Hid (Below w.heap.size w wr) ∧ Hid (∀ e ∈ (rows.map fun t => fitT l (KF l) t 0).take i, e = 0)) (fun iv _ => rows.length - (intOf iv).toNat)
  case atStart => exact ⟨0, rfl, Nat.zero_le _, Lib.hid (b0 w), Lib.hid (by simp)⟩
  case round =>
   obtain ⟨i, rfl, hi, HB, HZ⟩ := hrel
   by_cases hil : i < rows.length
   ·obtain ⟨b, off, rfl, hbo, hcc⟩ := HR.out.pos (by omega)
    obtain ⟨a4, c4, y0, y1, y2, hT⟩ := rowG_at HROW.out i hil
    have e0 := cb HB.out (hcc _ _ y0); have e1 := cb HB.out (hcc _ _ y1); have e2 := cb HB.out (hcc _ _ y2)
    rw [← Nat.add_assoc] at e1 e2
    have HE : Hid ((rows.map fun t => fitT l (KF l) t 0)[i]? = some (fitT l (KF l) rows[i] 0)) := Lib.hid (by simp [hil])
    have HT := Lib.hid (TrAt.below HB.out _ _ hT.at)
    generalize rows[i] = t at *
    clear y0 y1 y2 hcc hT
    go_wp2_with fail
    refine (rFits_v l HSC.out.wf HSC.out.goodK t sa sc a4 c4 wr (slb HS.out HB.out) HT.out).mono ?_
    rintro e w5 ⟨rfl, hb5⟩
    have HB5 := Lib.hid (bt HB.out hb5)
    clear hb5 HB e0 e1 e2
    generalize fitT l (KF l) t 0 = E at *
    by_cases hE : E = 0
    ·have hEb : (E != 0) = false := by simp [hE]
     have HZ2 : Hid (∀ e ∈ (rows.map fun t => fitT l (KF l) t 0).take (i + 1), e = 0) := Lib.hid (by
      intro e he
      rw [List.take_add_one, HE.out] at he
      rcases List.mem_append.1 he with h | h
      ·exact HZ.out e h
      ·have : e = E := by simpa using h
       rw [this]; exact hE)
     clear hE HZ HE
     go_wp2_with fail
     go_roundw
     case rel => exact ⟨i + 1, by go_num, by omega, HB5, HZ2⟩
     case measure => simp [intOf]; omega
    ·have hEb : (E != 0) = true := by simp [hE]
     have HN : Hid (E ≠ 0) := Lib.hid hE
     have HC : Hid (colsE l sh rows = E) := Lib.hid (by
      have hil2 : i < (rows.map fun t => fitT l (KF l) t 0).length := by rw [List.length_map]; exact hil
      have h2 : (rows.map fun t => fitT l (KF l) t 0)[i] = E := by have := HE.out; rw [List.getElem?_eq_getElem hil2] at this; exact Option.some.inj this
      have h1 := firstE_at hil2 HZ.out (by rw [h2]; exact hE)
      rw [h2] at h1
      unfold colsE
      rw [if_neg H200.out, h1, if_pos hE])
     clear hE HZ HE
     go_wp2_with fail
     refine bodyPost_ret (v := .tuple #[.slice none 0 0, .int .i64 E]) (by simp [results, Try.results13, go_sem]) rfl ?_
     exact ⟨HB5.out, .inl ⟨by rw [HC.out]; exact HN.out, by rw [HC.out]⟩⟩
   ·obtain rfl : i = rows.length := by omega
    have HZA : Hid (∀ t ∈ rows, fitT l (KF l) t 0 = 0) := Lib.hid (fun t ht => HZ.out _ (by rw [List.take_of_length_le (by simp)]; exact List.mem_map_of_mem ht))
    have HF0 : Hid (firstE (rows.map fun t => fitT l (KF l) t 0) = 0) := Lib.hid (firstE_zero.2 (fun e he => by obtain ⟨t, ht, rfl⟩ := List.mem_map.1 he; exact HZA.out t ht))
    go_wp2_with fail
    refine (begin_v sa sc l wr (slb HS.out HB.out) hn HSC.out.kids HRP.out HSC.out.leaf).mono ?_
    rintro e w2 ⟨q, aa0, rfl, hql, hqf, hqb, hqa, hqc, hmc, hwk, hb2⟩
    have HWK := Lib.hid hwk; have HB2 := Lib.hid (bt HB.out hb2)
    have HQL := Lib.hid hql; have HQF := Lib.hid hqf; have HQB := Lib.hid hqb; have HMC := Lib.hid hmc
    have hqm : q.p.m = (leafs l l.length).length := by unfold SP.m; rw [hqf]
    have HQM := Lib.hid hqm
    have hml : q.p.m ≤ 1000 := by rw [hqm]; have := leafs_le (l := l) (m := l.length); omega
    have hwr := HB.out.size
    have HR2 := Lib.hid (HR.out.below HB2.out)
    have HROW2 := Lib.hid (HROW.out.go (S := fun _ => False) (ok' := fun b => b < w.heap.size) (chF HB2.out) (fun b _ h => ⟨fun h => h, h⟩))
    have HNC : Hid (∀ b, b < w.heap.size → ¬ q.p.ch aa0 b) := Lib.hid (fun b hb => HWK.out.low (by rw [hqb]; omega))
    have HLF : Hid (∀ k, q.p.lf k = (leafs l l.length).getD k 0) := Lib.hid (fun k => by unfold SP.lf; rw [hqf])
    clear hwk hb2 hql hqf hqa hqc hmc hil HZ HB hqm
    go_wp2_with fail
    go_loopw [9] (fun iv wr => ∃ (i : Nat) (aa : Nat → Option Addr), iv = .int .i64 (i : Int) ∧ i ≤ rows.length ∧ Hid (Wk q wr (fun k => rowsC (q.p.lf k) sh (rows.take i)) aa) ∧ Hid (∀ k, k < q.p.m → (rowsC (q.p.lf k) sh (rows.take i)).length ≤ 4000) ∧ Hid (Stp q.p aa0 w2 aa wr)) (fun iv _ => rows.length - (intOf iv).toNat)
    case atStart => exact ⟨0, aa0, rfl, Nat.zero_le _, Lib.hid (HWK.out.congr (fun k _ => by simp [rowsC])), Lib.hid (fun k _ => by simp [rowsC]), Lib.hid (Stp.below (b0 w2))⟩
    case round =>
     obtain ⟨i, aa, rfl, hi, HW, HL4, HST⟩ := hrel
     by_cases hil : i < rows.length
     ·have hR := HR2.out.go (ok' := fun b => b < w.heap.size) HST.out.1 (fun b _ h => ⟨HNC.out b h, h⟩) (by decide)
      have hROW := HROW2.out.go (ok' := fun b => b < w.heap.size) HST.out.1 (fun b _ h => ⟨HNC.out b h, h⟩)
      obtain ⟨b, off, rfl, hbo, hcc⟩ := hR.pos (by omega)
      obtain ⟨a4, c4, y0, y1, y2, hT⟩ := rowG_at hROW i hil
      have e0 := hcc _ _ y0; have e1 := hcc _ _ y1; have e2 := hcc _ _ y2
      rw [← Nat.add_assoc] at e1 e2
      have HSN : Hid (∀ k, addG (fun k => rowsC (q.p.lf k) sh (rows.take i)) (fun k => valC (q.p.lf k) 0 0 0 0 sh rows[i]) k = rowsC (q.p.lf k) sh (rows.take (i + 1))) := Lib.hid (fun k => by
       rw [List.take_succ_eq_append_getElem hil, rowsC_snoc]; rfl)
      have HSH : Hid (shT sh rows[i]) := Lib.hid (sh_fitT sh 0 rows[i] HSC.out.ix (HZA.out _ (List.getElem_mem hil)))
      have HT := Lib.hid (hT.go (S := fun _ => False) (ok' := fun b => b < q.p.B0) (Chg.refl _ _) (fun b _ h => ⟨fun h => h, by rw [HQB.out]; exact Nat.lt_of_lt_of_le h hwr⟩))
      generalize rows[i] = t at *
      have HBD : Hid (∀ k, k < q.p.m → (rowsC (q.p.lf k) sh (rows.take i)).length + (valC (q.p.lf k) 0 0 0 0 sh t).length ≤ 1000000000000) := Lib.hid (fun k hk => by
       have h1 := HL4.out k hk
       have h2 := valC_50 (lf := q.p.lf k) sh 0 0 0 0 t HSH.out
       have h3 : 50 ^ hgt sh ≤ 50 ^ 5 := Nat.pow_le_pow_right (by decide) HH.out
       omega)
      have HR00 : Hid (lvR q.p.l 0 = 0) := Lib.hid (by
       unfold lvR
       rw [chain_zero, HQL.out]
       obtain ⟨nm, rp, kd, ks⟩ := sh
       have h1 := HSC.out.ix
       simp only [Ix] at h1
       have h2 := HR0.out
       simp only [Sh.rep] at h2
       obtain ⟨hl0, he0⟩ := List.getElem?_eq_some_iff.1 h1.1
       rw [cntR_cons, flN_eq hl0, he0]
       dsimp only
       rw [h2]
       simp [cntR])
      have HV := Lib.hid (rval_all q (sh := sh) (by rw [HQL.out]; exact HSC.out) (by rw [HQL.out]; exact HQF.out) (by rw [HQL.out]; exact hn) sh.size sh (Nat.le_refl _) 0 t a4 c4 0 0 wr _ aa (by rw [HQL.out]; exact HSC.out.ix) (by rw [HQL.out, HSC.out.len]; omega) HSC.out.good HW.out HSH.out HT.out (by omega) (by have := HSC.out.size; omega) (fun k hk => by rw [HR00.out]; exact HBD.out k hk))
      clear y0 y1 y2 hcc hT hR hROW
      go_wp2_with fail
      refine HV.out.mono ?_
      rintro e w5 ⟨rfl, aa', hw5, hst5⟩
      rw [HR00.out] at hw5
      have HW5 := Lib.hid (hw5.congr (fun k _ => HSN.out k)); have HST5 := Lib.hid (HST.out.trans hst5)
      clear hw5 hst5 e0 e1 e2 HV HT HSH HSN HBD HW HST
      go_wp2_with fail
      have x4 : w5.cell? ⟨q.p.bx, 4, none⟩ = some (.slice (some ⟨q.p.bc, 0, none⟩) q.p.m q.mc) := HW5.out.row.cell 4
      have HX4 := Lib.hid x4
      clear x4
      go_loopw [10] (fun kv wq => ∃ k : Nat, kv = .int .i64 (k : Int) ∧ k ≤ q.p.m ∧ Hid (∀ j, j < k → (rowsC (q.p.lf j) sh (rows.take (i + 1))).length ≤ 4000) ∧ w5 = wq) (fun kv _ => q.p.m - (intOf kv).toNat)
      case atStart => exact ⟨0, rfl, Nat.zero_le _, Lib.hid (fun j hj => by omega), rfl⟩
      case round =>
       obtain ⟨k, rfl, hk, HJ, rfl⟩ := hrel
       have x4 := HX4.out
       by_cases hkm : k < q.p.m
       ·obtain ⟨cur, cc, ht⟩ := HW5.out.tab
        have u0 := ht.cell0 hkm
        try dsimp only at u0
        have HRL : Hid ((rowsC (q.p.lf k) sh (rows.take (i + 1))).length ≤ (rowsC (q.p.lf k) sh rows).length) := Lib.hid (rowsC_take_le _ _ _ _)
        have hmx : (rowsC (q.p.lf k) sh (rows.take (i + 1))).length ≤ 9223372036854775807 := by
         have h := ht.ow.own (k * 3) (by omega)
         have h1 := h.le; have h2 := h.max
         rw [(Go.Proofs.Ytjbkjfefjhbolaa.n0 _ k).1] at h1
         unfold maxLen at h2
         exact Nat.le_trans h1 h2
        clear ht
        by_cases h4 : 4000 < (rowsC (q.p.lf k) sh (rows.take (i + 1))).length
        ·have HC : Hid (colsE l sh rows = 4) := Lib.hid (by
          unfold colsE
          rw [if_neg H200.out, HF0.out, if_neg (fun h => h rfl), if_pos]
          unfold manyC
          rw [List.any_eq_true]
          have hk' : k < (leafs l l.length).length := by rw [← HQM.out]; exact hkm
          refine ⟨(leafs l l.length)[k], List.getElem_mem hk', decide_eq_true ?_⟩
          have h5 := HRL.out
          rw [HLF.out] at h4 h5
          simp only [List.getD, List.getElem?_eq_getElem hk', Option.getD_some] at h4 h5
          omega)
         generalize (rowsC (q.p.lf k) sh (rows.take (i + 1))).length = N at *
         go_wp2_with fail
         refine bodyPost_ret (v := .tuple #[.slice none 0 0, .int .i64 4]) (by simp [results, Try.results13, go_sem]) rfl ?_
         exact ⟨Chg.bt HB2.out HST5.out.1 (fun b hb => HNC.out b hb), .inl ⟨by rw [HC.out]; decide, by rw [HC.out]⟩⟩
        ·have HJ2 : Hid (∀ j, j < k + 1 → (rowsC (q.p.lf j) sh (rows.take (i + 1))).length ≤ 4000) := Lib.hid (fun j hj => by
          by_cases he : j = k
          ·subst he; omega
          ·exact HJ.out j (by omega))
         have h4' : (rowsC (q.p.lf k) sh (rows.take (i + 1))).length ≤ 4000 := by omega
         clear h4
         generalize (rowsC (q.p.lf k) sh (rows.take (i + 1))).length = N at *
         go_wp2_with fail
         go_roundw
         case rel => exact ⟨k + 1, by go_num, by omega, HJ2, by first | rfl | trivial⟩
         case measure => simp [intOf]; omega
       ·obtain rfl : k = q.p.m := by omega
        go_wp2_with fail
        go_roundw
        case rel => exact ⟨i + 1, aa', by go_num, by omega, HW5, HJ, HST5⟩
        case measure => simp [intOf]; omega
     ·obtain rfl : i = rows.length := by omega
      have x4 : wr.cell? ⟨q.p.bx, 4, none⟩ = some (.slice (some ⟨q.p.bc, 0, none⟩) q.p.m q.mc) := HW.out.row.cell 4
      have hW := HW.out
      rw [List.take_length] at hW
      have hl4 := HL4.out
      rw [List.take_length] at hl4
      have HWX := Lib.hid hW
      have HC : Hid (colsE l sh rows = 0) := Lib.hid (by
       unfold colsE
       rw [if_neg H200.out, HF0.out, if_neg (fun h => h rfl), if_neg]
       intro hm
       unfold manyC at hm
       rw [List.any_eq_true] at hm
       obtain ⟨lf, h1, h2⟩ := hm
       obtain ⟨k, hk, rfl⟩ := List.getElem_of_mem h1
       have h3 := hl4 k (by rw [HQM.out]; exact hk)
       rw [HLF.out] at h3
       simp only [List.getD, List.getElem?_eq_getElem hk, Option.getD_some] at h3
       have := of_decide_eq_true h2
       omega)
      clear hW hl4
      go_wp2_with fail
      refine bodyPost_ret (v := .tuple #[.slice (some ⟨q.p.bc, 0, none⟩) q.p.m q.mc, .int .i64 0]) (by simp [results, Try.results13, go_sem]) rfl ?_
      obtain ⟨cur, cc, ht⟩ := HWX.out.tab
      have ht2 := ht.congr (C' := fun k => rowsC ((leafs l l.length).getD k 0) sh rows) (fun k _ => by (try dsimp only); rw [HLF.out])
      rw [HQM.out] at ht2 ⊢
      have hbd := HWX.out.bds
      exact ⟨Chg.bt HB2.out HST.out.1 (fun b hb => HNC.out b hb), .inr ⟨HC.out, q.p.B, q.p.bc, q.mc, cur, aa, cc, rfl, by rw [HQB.out] at hbd; omega, HMC.out, ht2⟩⟩
end Go.Proofs.Ytjbkjfefjhbolaa
namespace Go.Proofs.Ytjbkjfefjhbolaa
open Go.RowKit Go.Shr
def colsL (l : List Fl) (sh : Sh) (rows : List Tr) : List Cl := if colsE l sh rows = 0 then clsC (leafs l l.length).length (fun k => rowsC ((leafs l l.length).getD k 0) sh rows) else []
def CQ (l : List Fl) (sh : Sh) (rows : List Tr) (w : World) (e : Ending) (w' : World) : Prop :=
 ∃ (a : Option Addr) (n cap : Nat) (xs : List Value), e = .returned (.tuple #[.slice a n cap, .int .i64 (colsE l sh rows)]) ∧ ColsR w' a n cap (colsL l sh rows) xs ∧ Below w.heap.size w w'
theorem leafs_max {l : List Fl} {sh : Sh} (hS : Sch l sh) : (leafs l l.length).length ≤ 1000 := by
 have h1 := leafs_le (l := l) (m := l.length); have h2 := hS.len; have h3 := hS.size; omega
theorem CQ.of {l : List Fl} {sh : Sh} (hS : Sch l sh) {rows : List Tr} {w w' : World} {e : Ending} (h : ColsQ l sh rows w e w') : CQ l sh rows w e w' := by
 obtain ⟨hb, ⟨hne, rfl⟩ | ⟨hz, B, bc, cur, aa, cc, rfl, _, hct⟩⟩ := h
 ·exact ⟨none, 0, 0, [], rfl, by rw [colsL, if_neg hne]; exact ColsR.nil _ _, hb⟩
 ·exact ⟨_, _, _, _, by rw [hz], by rw [colsL, if_pos hz]; exact hct.cols (by have := leafs_max hS; unfold maxLen; omega), hb⟩
theorem CQ.ofR {l : List Fl} {sh : Sh} {rows : List Tr} {w w' : World} {e : Ending} (h : RColsQ l sh rows w e w') : CQ l sh rows w e w' := by
 obtain ⟨hb, ⟨hne, rfl⟩ | ⟨hz, B, bc, cap, cur, aa, cc, rfl, _, hcm, hct⟩⟩ := h
 ·exact ⟨none, 0, 0, [], rfl, by rw [colsL, if_neg hne]; exact ColsR.nil _ _, hb⟩
 ·exact ⟨_, _, _, _, by rw [hz], by rw [colsL, if_pos hz]; exact hct.cols hcm, hb⟩
end Go.Proofs.Ytjbkjfefjhbolaa
