import Derived.Test.YtjbkjfefjhbolaakRBeg14
import Derived.Test.YtjbkjfefjhbolaakFitR2
import Derived.Test.YtjbkjfefjhbolaakCols14
set_option linter.all false
open List renaming getElem?_eq_getElem → zLP, length_append → zLR
open Nat renaming pow_le_pow_right → zLQ, zero_le → zLS
open Option renaming getD_some → zLT
namespace Go.Proofs.Ytjbkjfefjhbolaa
open Go.RowKit Go.Shr
theorem zGW {g : Nat → Tr → List Cel} {r deep B : Nat} {e : List Cel} (hB : 1 ≤ B) (he : e.length ≤ 1) : ∀ (x : List Tr), x.length ≤ 50 → (∀ r', ∀ t ∈ x, (g r' t).length ≤ B) → (zB6 g r deep e x).length ≤ 50 * B
 | [], _, _ => by simp only [zB6]; omega
 | t :: ts, h3, h => by
  have h1 := h r t (by simp)
  have h2 := zB2 (g := g deep) ts fun u hu => h deep u (by simp [hu])
  simp only [List.length_cons] at h3
  have h4 : ts.length * B ≤ 49 * B := Nat.mul_le_mul_right _ (by omega)
  simp only [zB6, zLR]
  omega
theorem zEo (n : Nat) : 1 ≤ 50 ^ n := Nat.one_le_pow _ _ (by decide)
mutual
theorem zHc {lf : Nat} : ∀ (s : Sh) (i d deep r : Nat) (t : Tr), shT s t → (yK lf i d deep r s t).length ≤ 50 ^ hgt s
 | .mk nm rp kd ks, i, d, deep, r, t, h => by
  simp only [shT] at h
  simp only [yK, hgt]
  split
  ·split
   ·simpa using zEo _
   ·simp
  ·rename_i hk
   exact zHt ks (i + 1) d deep r t.kids (h (Decidable.byContradiction hk))
theorem zHt {lf : Nat} : ∀ (ks : List Sh) (o d deep r : Nat) (xs : List (List Tr)), shK ks xs → (qB lf o d deep r ks xs).length ≤ 50 ^ zAN ks
 | [], o, d, deep, r, xs, h => by simp [qB]
 | s :: q, o, d, deep, r, [], h => by simp [qB]
 | s :: q, o, d, deep, r, x :: xs, h => by
  simp only [shK] at h
  rw [xH, zLR]
  simp only [zAN]
  have m1 : hgt s + 1 ≤ Nat.max (hgt s + 1) (zAN q) := Nat.le_max_left _ _
  have m2 : zAN q ≤ Nat.max (hgt s + 1) (zAN q) := Nat.le_max_right _ _
  have p1 : 50 ^ (hgt s + 1) ≤ 50 ^ Nat.max (hgt s + 1) (zAN q) := zLQ (by decide) m1
  have p2 : 50 ^ zAN q ≤ 50 ^ Nat.max (hgt s + 1) (zAN q) := zLQ (by decide) m2
  by_cases hr : o ≤ lf ∧ lf < o + s.size
  ·rw [wX q (o + s.size) d deep r xs (by omega)]
   have := zGW (g := fun r' u => yK lf o (d + dmI s.rep) (deep + rmI s.rep) r' s u) (r := r) (deep := deep + rmI s.rep) (zEo (hgt s)) (zEw lf o s r d) x h.1 (fun r' t ht => zHc s o _ _ r' t (h.2.1 t ht))
   unfold jO
   rw [Nat.pow_succ] at p1
   simp only [List.length_nil]
   omega
  ·rw [zAX s o d deep r x hr]
   have := zHt (lf := lf) q (o + s.size) d deep r xs h.2.2
   simp only [List.length_nil]
   omega
end
theorem zFU (q : WP) {sh : Sh} (hS : Sch q.p.l sh) (hl : q.p.lfs = zG q.p.l q.p.l.length) (hll : q.p.l.length ≤ 1000) : ∀ (N : Nat) (s : Sh), s.size ≤ N → zKH q s
 | 0, .mk _ _ _ _, h => by simp [Sh.size] at h
 | N + 1, .mk nm rp kd ks, h => by
  by_cases hk : kd = 0
  ·subst hk
   simp only [Sh.size] at h
   refine zIL q hS hl hll nm rp ks (fun s hs => zFU q hS hl hll N s ?_)
   have : ∀ (q : List Sh), s ∈ q → s.size ≤ zC q := by
    intro q
    induction q with
    | nil => intro h; cases h
    | cons x q ih =>
     intro h
     rcases List.mem_cons.1 h with rfl | h
     ·simp [zC]
     ·have := ih h; simp only [zC]; omega
   have := this ks hs
   omega
  ·exact zHR q hS hl hll _ hk
theorem zD0 (lf : Nat) (sh : Sh) (rows : List Tr) (i : Nat) : (zS lf sh (rows.take i)).length ≤ (zS lf sh rows).length := by
 conv => rhs; rw [← List.take_append_drop i rows]
 unfold zS
 rw [List.flatMap_append, zLR]; omega
def zJD (l : List Fl) (sh : Sh) (rows : List Tr) (w : World) (e : Ending) (w' : World) : Prop :=
 Below w.heap.size w w' ∧ (yM l sh rows ≠ 0 ∧ e = .returned (.tuple #[.slice none 0 0, .int .i64 (yM l sh rows)]) ∨
  yM l sh rows = 0 ∧ ∃ (B bc cap : Nat) (cur : Array Value) (aa : Nat → Option Addr) (cc : Nat → Nat), e = .returned (.tuple #[.slice (some ⟨bc, 0, none⟩) (zG l l.length).length cap, .int .i64 0]) ∧ w.heap.size ≤ bc ∧ cap ≤ maxLen ∧
   RT B w' bc (zG l l.length).length cap (fun k => zS ((zG l l.length).getD k 0) sh rows) cur aa cc)
set_option maxHeartbeats 2000000 in
set_option maxRecDepth 100000 in
theorem zHI {l : List Fl} {sh : Sh} (hS : Sch l sh) (hh : hgt sh ≤ 5) (hr0 : sh.rep = 0) (hrp : ∀ x ∈ l, x.rep = 0 ∨ x.rep = 1 ∨ x.rep = 2) (rows : List Tr) (sa ra : Option Addr) (sc rc : Nat) (ys : List Value) (w : World) (hs : Sl (fun b => b < w.heap.size) w 4 sa l.length sc (fls l))
  (hr : Sl (fun b => b < w.heap.size) w 3 ra rows.length rc ys) (hrow : zZ (fun b => b < w.heap.size) w rows ys) :
  Calls Try.prog 13 #[.slice sa l.length sc, .slice ra rows.length rc] w (zJD l sh rows w) := by
 have hn : l.length ≤ 1000 := by have := hS.len; have := hS.size; omega
 have hrm : rows.length ≤ maxLen := Nat.le_trans hr.le hr.max
 unfold maxLen at hrm
 have HS := zH hs; have HSC := zH hS; have HRP := zH hrp; have HR := zH hr; have HROW := zH hrow; have HH := zH hh; have HR0 := zH hr0
 clear hs hS hrp hr hrow hh hr0
 go_enter Try.func13, Try.ntmps13
 go_upto_region 1 with fail
 by_cases h200 : 200 < rows.length
 ·have HN : Hid (yM l sh rows = 4) := zH (by unfold yM; rw [if_pos h200])
  go_wp2_with fail
  refine bodyPost_ret (v := .tuple #[.slice none 0 0, .int .i64 4]) (by simp [results, Try.results13, go_sem]) rfl ?_
  exact ⟨b0 w, .inl ⟨by rw [HN.out]; decide, by rw [HN.out]⟩⟩
 ·have H200 := zH h200
  have hdb : (decide (200 < (rows.length : Int))) = false := decide_eq_false (by omega)
  go_wp2_with fail
  clear hdb
  go_loopw [6] (fun iv wr => ∃ i : Nat, iv = .int .i64 (i : Int) ∧ i ≤ rows.length ∧ Hid (Below w.heap.size w wr) ∧ Hid (∀ e ∈ (rows.map fun t => yL l (KF l) t 0).take i, e = 0)) (fun iv _ => rows.length - (intOf iv).toNat)
  case atStart => exact ⟨0, rfl, zLS _, zH (b0 w), zH (by simp)⟩
  case round =>
   obtain ⟨i, rfl, hi, HB, HZ⟩ := hrel
   by_cases hil : i < rows.length
   ·obtain ⟨b, off, rfl, hbo, hcc⟩ := HR.out.pos (by omega)
    obtain ⟨a4, c4, y0, y1, y2, hT⟩ := zAr HROW.out i hil
    have e0 := cb HB.out (hcc _ _ y0); have e1 := cb HB.out (hcc _ _ y1); have e2 := cb HB.out (hcc _ _ y2)
    rw [← Nat.add_assoc] at e1 e2
    have HE : Hid ((rows.map fun t => yL l (KF l) t 0)[i]? = some (yL l (KF l) rows[i] 0)) := zH (by simp [hil])
    have HT := zH (xS.below HB.out _ _ hT.at)
    generalize rows[i] = t at *
    clear y0 y1 y2 hcc hT
    go_wp2_with fail
    refine (zJW l HSC.out.wf HSC.out.goodK t sa sc a4 c4 wr (slb HS.out HB.out) HT.out).mono ?_
    rintro e w5 ⟨rfl, hb5⟩
    have HB5 := zH (bt HB.out hb5)
    clear hb5 HB e0 e1 e2
    generalize yL l (KF l) t 0 = E at *
    by_cases hE : E = 0
    ·have hEb : (E != 0) = false := by simp [hE]
     have HZ2 : Hid (∀ e ∈ (rows.map fun t => yL l (KF l) t 0).take (i + 1), e = 0) := zH (by
      intro e he
      rw [List.take_add_one, HE.out] at he
      rcases List.mem_append.1 he with h | h
      ·exact HZ.out e h
      ·have : e = E := by simpa using h
       rw [this]; exact hE)
     clear hE HZ HE
     go_wp2_with fail
     go_roundw
     case rel => exact ⟨i + 1, by go_num, by omega, HB5, HZ2⟩
     case measure => simp [intOf]; omega
    ·have hEb : (E != 0) = true := by simp [hE]
     have HN : Hid (E ≠ 0) := zH hE
     have HC : Hid (yM l sh rows = E) := zH (by
      have hil2 : i < (rows.map fun t => yL l (KF l) t 0).length := by rw [List.length_map]; exact hil
      have h2 : (rows.map fun t => yL l (KF l) t 0)[i] = E := by have := HE.out; rw [zLP hil2] at this; exact Option.some.inj this
      have h1 := zEP hil2 HZ.out (by rw [h2]; exact hE)
      rw [h2] at h1
      unfold yM
      rw [if_neg H200.out, h1, if_pos hE])
     clear hE HZ HE
     go_wp2_with fail
     refine bodyPost_ret (v := .tuple #[.slice none 0 0, .int .i64 E]) (by simp [results, Try.results13, go_sem]) rfl ?_
     exact ⟨HB5.out, .inl ⟨by rw [HC.out]; exact HN.out, by rw [HC.out]⟩⟩
   ·obtain rfl : i = rows.length := by omega
    have HZA : Hid (∀ t ∈ rows, yL l (KF l) t 0 = 0) := zH (fun t ht => HZ.out _ (by rw [List.take_of_length_le (by simp)]; exact List.mem_map_of_mem ht))
    have HF0 : Hid (zAd (rows.map fun t => yL l (KF l) t 0) = 0) := zH (zAA.2 (fun e he => by obtain ⟨t, ht, rfl⟩ := List.mem_map.1 he; exact HZA.out t ht))
    go_wp2_with fail
    refine (zKm sa sc l wr (slb HS.out HB.out) hn HSC.out.kids HRP.out HSC.out.leaf).mono ?_
    rintro e w2 ⟨q, aa0, rfl, hql, hqf, hqb, hqa, hqc, hmc, hwk, hb2⟩
    have HWK := zH hwk; have HB2 := zH (bt HB.out hb2)
    have HQL := zH hql; have HQF := zH hqf; have HQB := zH hqb; have HMC := zH hmc
    have hqm : q.p.m = (zG l l.length).length := by unfold SP.m; rw [hqf]
    have HQM := zH hqm
    have hml : q.p.m ≤ 1000 := by rw [hqm]; have := yW (l := l) (m := l.length); omega
    have hwr := HB.out.size
    have HR2 := zH (HR.out.below HB2.out)
    have HROW2 := zH (HROW.out.go (S := fun _ => False) (ok' := fun b => b < w.heap.size) (chF HB2.out) (fun b _ h => ⟨fun h => h, h⟩))
    have HNC : Hid (∀ b, b < w.heap.size → ¬ q.p.ch aa0 b) := zH (fun b hb => HWK.out.low (by rw [hqb]; omega))
    have HLF : Hid (∀ k, q.p.lf k = (zG l l.length).getD k 0) := zH (fun k => by unfold SP.lf; rw [hqf])
    clear hwk hb2 hql hqf hqa hqc hmc hil HZ HB hqm
    go_wp2_with fail
    go_loopw [9] (fun iv wr => ∃ (i : Nat) (aa : Nat → Option Addr), iv = .int .i64 (i : Int) ∧ i ≤ rows.length ∧ Hid (Wk q wr (fun k => zS (q.p.lf k) sh (rows.take i)) aa) ∧ Hid (∀ k, k < q.p.m → (zS (q.p.lf k) sh (rows.take i)).length ≤ 4000) ∧ Hid (Stp q.p aa0 w2 aa wr)) (fun iv _ => rows.length - (intOf iv).toNat)
    case atStart => exact ⟨0, aa0, rfl, zLS _, zH (HWK.out.congr (fun k _ => by simp [zS])), zH (fun k _ => by simp [zS]), zH (Stp.below (b0 w2))⟩
    case round =>
     obtain ⟨i, aa, rfl, hi, HW, HL4, HST⟩ := hrel
     by_cases hil : i < rows.length
     ·have hR := HR2.out.go (ok' := fun b => b < w.heap.size) HST.out.1 (fun b _ h => ⟨HNC.out b h, h⟩) (by decide)
      have hROW := HROW2.out.go (ok' := fun b => b < w.heap.size) HST.out.1 (fun b _ h => ⟨HNC.out b h, h⟩)
      obtain ⟨b, off, rfl, hbo, hcc⟩ := hR.pos (by omega)
      obtain ⟨a4, c4, y0, y1, y2, hT⟩ := zAr hROW i hil
      have e0 := hcc _ _ y0; have e1 := hcc _ _ y1; have e2 := hcc _ _ y2
      rw [← Nat.add_assoc] at e1 e2
      have HSN : Hid (∀ k, yH (fun k => zS (q.p.lf k) sh (rows.take i)) (fun k => yK (q.p.lf k) 0 0 0 0 sh rows[i]) k = zS (q.p.lf k) sh (rows.take (i + 1))) := zH (fun k => by
       rw [List.take_succ_eq_append_getElem hil, zDh]; rfl)
      have HSH : Hid (shT sh rows[i]) := zH (zE8 sh 0 rows[i] HSC.out.ix (HZA.out _ (List.getElem_mem hil)))
      have HT := zH (hT.go (S := fun _ => False) (ok' := fun b => b < q.p.B0) (Chg.refl _ _) (fun b _ h => ⟨fun h => h, by rw [HQB.out]; exact Nat.lt_of_lt_of_le h hwr⟩))
      generalize rows[i] = t at *
      have HBD : Hid (∀ k, k < q.p.m → (zS (q.p.lf k) sh (rows.take i)).length + (yK (q.p.lf k) 0 0 0 0 sh t).length ≤ 1000000000000) := zH (fun k hk => by
       have h1 := HL4.out k hk
       have h2 := zHc (lf := q.p.lf k) sh 0 0 0 0 t HSH.out
       have h3 : 50 ^ hgt sh ≤ 50 ^ 5 := zLQ (by decide) HH.out
       omega)
      have HR00 : Hid (lvR q.p.l 0 = 0) := zH (by
       unfold lvR
       rw [zBc, HQL.out]
       obtain ⟨nm, rp, kd, ks⟩ := sh
       have h1 := HSC.out.ix
       simp only [Ix] at h1
       have h2 := HR0.out
       simp only [Sh.rep] at h2
       obtain ⟨hl0, he0⟩ := List.getElem?_eq_some_iff.1 h1.1
       rw [jI, qS hl0, he0]
       dsimp only
       rw [h2]
       simp [zAj])
      have HV := zH (zFU q (sh := sh) (by rw [HQL.out]; exact HSC.out) (by rw [HQL.out]; exact HQF.out) (by rw [HQL.out]; exact hn) sh.size sh (Nat.le_refl _) 0 t a4 c4 0 0 wr _ aa (by rw [HQL.out]; exact HSC.out.ix) (by rw [HQL.out, HSC.out.len]; omega) HSC.out.good HW.out HSH.out HT.out (by omega) (by have := HSC.out.size; omega) (fun k hk => by rw [HR00.out]; exact HBD.out k hk))
      clear y0 y1 y2 hcc hT hR hROW
      go_wp2_with fail
      refine HV.out.mono ?_
      rintro e w5 ⟨rfl, aa', hw5, hst5⟩
      rw [HR00.out] at hw5
      have HW5 := zH (hw5.congr (fun k _ => HSN.out k)); have HST5 := zH (HST.out.trans hst5)
      clear hw5 hst5 e0 e1 e2 HV HT HSH HSN HBD HW HST
      go_wp2_with fail
      have x4 : w5.cell? ⟨q.p.bx, 4, none⟩ = some (.slice (some ⟨q.p.bc, 0, none⟩) q.p.m q.mc) := HW5.out.row.cell 4
      have HX4 := zH x4
      clear x4
      go_loopw [10] (fun kv wq => ∃ k : Nat, kv = .int .i64 (k : Int) ∧ k ≤ q.p.m ∧ Hid (∀ j, j < k → (zS (q.p.lf j) sh (rows.take (i + 1))).length ≤ 4000) ∧ w5 = wq) (fun kv _ => q.p.m - (intOf kv).toNat)
      case atStart => exact ⟨0, rfl, zLS _, zH (fun j hj => by omega), rfl⟩
      case round =>
       obtain ⟨k, rfl, hk, HJ, rfl⟩ := hrel
       have x4 := HX4.out
       by_cases hkm : k < q.p.m
       ·obtain ⟨cur, cc, ht⟩ := HW5.out.tab
        have u0 := ht.cell0 hkm
        try dsimp only at u0
        have HRL : Hid ((zS (q.p.lf k) sh (rows.take (i + 1))).length ≤ (zS (q.p.lf k) sh rows).length) := zH (zD0 _ _ _ _)
        have hmx : (zS (q.p.lf k) sh (rows.take (i + 1))).length ≤ 9223372036854775807 := by
         have h := ht.ow.own (k * 3) (by omega)
         have h1 := h.le; have h2 := h.max
         rw [(Go.Proofs.Ytjbkjfefjhbolaa.n0 _ k).1] at h1
         unfold maxLen at h2
         exact Nat.le_trans h1 h2
        clear ht
        by_cases h4 : 4000 < (zS (q.p.lf k) sh (rows.take (i + 1))).length
        ·have HC : Hid (yM l sh rows = 4) := zH (by
          unfold yM
          rw [if_neg H200.out, HF0.out, if_neg (fun h => h rfl), if_pos]
          unfold zBk
          rw [List.any_eq_true]
          have hk' : k < (zG l l.length).length := by rw [← HQM.out]; exact hkm
          refine ⟨(zG l l.length)[k], List.getElem_mem hk', decide_eq_true ?_⟩
          have h5 := HRL.out
          rw [HLF.out] at h4 h5
          simp only [List.getD, zLP hk', zLT] at h4 h5
          omega)
         generalize (zS (q.p.lf k) sh (rows.take (i + 1))).length = N at *
         go_wp2_with fail
         refine bodyPost_ret (v := .tuple #[.slice none 0 0, .int .i64 4]) (by simp [results, Try.results13, go_sem]) rfl ?_
         exact ⟨Chg.bt HB2.out HST5.out.1 (fun b hb => HNC.out b hb), .inl ⟨by rw [HC.out]; decide, by rw [HC.out]⟩⟩
        ·have HJ2 : Hid (∀ j, j < k + 1 → (zS (q.p.lf j) sh (rows.take (i + 1))).length ≤ 4000) := zH (fun j hj => by
          by_cases he : j = k
          ·subst he; omega
          ·exact HJ.out j (by omega))
         have h4' : (zS (q.p.lf k) sh (rows.take (i + 1))).length ≤ 4000 := by omega
         clear h4
         generalize (zS (q.p.lf k) sh (rows.take (i + 1))).length = N at *
         go_wp2_with fail
         go_roundw
         case rel => exact ⟨k + 1, by go_num, by omega, HJ2, by first | rfl | trivial⟩
         case measure => simp [intOf]; omega
       ·obtain rfl : k = q.p.m := by omega
        go_wp2_with fail
        go_roundw
        case rel => exact ⟨i + 1, aa', by go_num, by omega, HW5, HJ, HST5⟩
        case measure => simp [intOf]; omega
     ·obtain rfl : i = rows.length := by omega
      have x4 : wr.cell? ⟨q.p.bx, 4, none⟩ = some (.slice (some ⟨q.p.bc, 0, none⟩) q.p.m q.mc) := HW.out.row.cell 4
      have hW := HW.out
      rw [List.take_length] at hW
      have hl4 := HL4.out
      rw [List.take_length] at hl4
      have HWX := zH hW
      have HC : Hid (yM l sh rows = 0) := zH (by
       unfold yM
       rw [if_neg H200.out, HF0.out, if_neg (fun h => h rfl), if_neg]
       intro hm
       unfold zBk at hm
       rw [List.any_eq_true] at hm
       obtain ⟨lf, h1, h2⟩ := hm
       obtain ⟨k, hk, rfl⟩ := List.getElem_of_mem h1
       have h3 := hl4 k (by rw [HQM.out]; exact hk)
       rw [HLF.out] at h3
       simp only [List.getD, zLP hk, zLT] at h3
       have := of_decide_eq_true h2
       omega)
      clear hW hl4
      go_wp2_with fail
      refine bodyPost_ret (v := .tuple #[.slice (some ⟨q.p.bc, 0, none⟩) q.p.m q.mc, .int .i64 0]) (by simp [results, Try.results13, go_sem]) rfl ?_
      obtain ⟨cur, cc, ht⟩ := HWX.out.tab
      have ht2 := ht.congr (C' := fun k => zS ((zG l l.length).getD k 0) sh rows) (fun k _ => by (try dsimp only); rw [HLF.out])
      rw [HQM.out] at ht2 ⊢
      have hbd := HWX.out.bds
      exact ⟨Chg.bt HB2.out HST.out.1 (fun b hb => HNC.out b hb), .inr ⟨HC.out, q.p.B, q.p.bc, q.mc, cur, aa, cc, rfl, by rw [HQB.out] at hbd; omega, HMC.out, ht2⟩⟩
def xL (l : List Fl) (sh : Sh) (rows : List Tr) : List Cl := if yM l sh rows = 0 then zG0 (zG l l.length).length (fun k => zS ((zG l l.length).getD k 0) sh rows) else []
def CQ (l : List Fl) (sh : Sh) (rows : List Tr) (w : World) (e : Ending) (w' : World) : Prop :=
 ∃ (a : Option Addr) (n cap : Nat) (xs : List Value), e = .returned (.tuple #[.slice a n cap, .int .i64 (yM l sh rows)]) ∧ xE w' a n cap (xL l sh rows) xs ∧ Below w.heap.size w w'
theorem zBD {l : List Fl} {sh : Sh} (hS : Sch l sh) : (zG l l.length).length ≤ 1000 := by
 have h1 := yW (l := l) (m := l.length); have h2 := hS.len; have h3 := hS.size; omega
theorem CQ.of {l : List Fl} {sh : Sh} (hS : Sch l sh) {rows : List Tr} {w w' : World} {e : Ending} (h : zKM l sh rows w e w') : CQ l sh rows w e w' := by
 obtain ⟨hb, ⟨hne, rfl⟩ | ⟨hz, B, bc, cur, aa, cc, rfl, _, hct⟩⟩ := h
 ·exact ⟨none, 0, 0, [], rfl, by rw [xL, if_neg hne]; exact xE.nil _ _, hb⟩
 ·exact ⟨_, _, _, _, by rw [hz], by rw [xL, if_pos hz]; exact hct.cols (by have := zBD hS; unfold maxLen; omega), hb⟩
theorem CQ.ofR {l : List Fl} {sh : Sh} {rows : List Tr} {w w' : World} {e : Ending} (h : zJD l sh rows w e w') : CQ l sh rows w e w' := by
 obtain ⟨hb, ⟨hne, rfl⟩ | ⟨hz, B, bc, cap, cur, aa, cc, rfl, _, hcm, hct⟩⟩ := h
 ·exact ⟨none, 0, 0, [], rfl, by rw [xL, if_neg hne]; exact xE.nil _ _, hb⟩
 ·exact ⟨_, _, _, _, by rw [hz], by rw [xL, if_pos hz]; exact hct.cols hcm, hb⟩
end Go.Proofs.Ytjbkjfefjhbolaa
