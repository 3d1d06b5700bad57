/-
  The walk of ShredOne.
-/
import Derived.Test.YtibhcibcfommeaaLCols14
import Derived.Test.YtibhcibcfommeaaKnown14
import Derived.Test.YtibhcibcfommeaaMkC14
set_option linter.unusedSimpArgs false
namespace Go.Proofs.Ytibhcibcfommeaa
open Go.RowKit Go.Shr
theorem rowG_part {ok : Nat → Prop} {w : World} : ∀ (i k : Nat) {l : List Tr} {ys : List Value}, RowG ok w l ys → RowG ok w ((l.drop i).take k) ((ys.drop (i * 3)).take (k * 3))
  | 0, 0, l, ys, _ => by simp [RowG]
  | 0, k + 1, [], ys, h => by simp only [RowG] at h; subst h; simp [RowG]
  | 0, k + 1, t :: r, ys, h => by
    simp only [RowG] at h
    obtain ⟨c0, c1, c2, yr, rfl, h1, h2⟩ := h
    have := rowG_part 0 k h2
    simp only [Nat.zero_mul, List.drop_zero] at this ⊢
    rw [show (k + 1) * 3 = k * 3 + 1 + 1 + 1 by omega]
    simp only [List.take_succ_cons, RowG]
    exact ⟨c0, c1, c2, _, rfl, h1, this⟩
  | i + 1, k, [], ys, h => by simp only [RowG] at h; subst h; simp [RowG]
  | i + 1, k, t :: r, ys, h => by
    simp only [RowG] at h
    obtain ⟨c0, c1, c2, yr, rfl, h1, h2⟩ := h
    have := rowG_part i k h2
    rw [show (i + 1) * 3 = i * 3 + 1 + 1 + 1 by omega]
    simpa using this
theorem celR_app (A B : List Cel) : celR (A ++ B) = celR A ++ celR B := by simp [celR]
theorem celD_app (A B : List Cel) : celD (A ++ B) = celD A ++ celD B := by simp [celD]
theorem celV_app (A B : List Cel) : celV (A ++ B) = celV A ++ celV B := by simp [celV]
theorem vcs_app (A B : List Vc) : vcs (A ++ B) = vcs A ++ vcs B := by simp [vcs]
theorem rowsC_app (lf : Nat) (sh : Sh) (a b : List Tr) : rowsC lf sh (a ++ b) = rowsC lf sh a ++ rowsC lf sh b := by simp [rowsC]
/-- A table of columns that are empty. -/
theorem CT.zero {B : Nat} {w : World} {bc m : Nat} (hr : Rw w bc (madeCells #[.slice none 0 0, .slice none 0 0, .slice none 0 0] (m * 3)) 46) (hl : bc < B) : CT B w bc m (fun _ => []) (madeCells #[.slice none 0 0, .slice none 0 0, .slice none 0 0] (m * 3)) (fun _ => none) (fun _ => 0) := by
  refine ⟨hr, by simp [madeCells], fun j hj => ?_, (OW.nil _ _ _ _ _).congr (fun _ _ => rfl) (fun j _ => ?_) (fun _ _ => rfl) (fun j _ => ?_), hl⟩
  · have hz : nC (fun _ => []) j = 0 := by unfold nC; split <;> rfl
    rw [hz]
    have h3 : j % 3 = 0 ∨ j % 3 = 1 ∨ j % 3 = 2 := by omega
    rcases h3 with h3 | h3 | h3 <;> simp [madeCells, hj, h3]
  · unfold nC; split <;> rfl
  · unfold xC; split
    · rfl
    · split <;> rfl
/-- As far as a round has come. -/
def mixC (A D : Nat → List Cel) (k j : Nat) : List Cel := if j < k then A j ++ D j else A j
theorem mixC_upd (A D : Nat → List Cel) (k j : Nat) : upd (mixC A D k) k (A k ++ D k) j = mixC A D (k + 1) j := by
  unfold mixC
  by_cases h : j = k
  · subst h; rw [upd_self, if_pos (by omega)]
  · rw [upd_ne _ _ h]
    by_cases h2 : j < k
    · rw [if_pos h2, if_pos (by omega)]
    · rw [if_neg h2, if_neg (by omega)]
theorem mixC_at (A D : Nat → List Cel) (k : Nat) : mixC A D k k = A k := if_neg (Nat.lt_irrefl _)
theorem own0' {B : Nat} {w : World} {m k : Nat} {C : Nat → List Cel} {aa : Nat → Option Addr} {cc : Nat → Nat} {A : List Cel} (h : OW B w (m * 3) tyC szC aa (nC C) cc (xC C)) (hk : k < m) (hA : C k = A) : Own B w 3 1 (aa (k * 3)) A.length (cc (k * 3)) (celR A) := hA ▸ OW.own0 h hk
theorem own1'' {B : Nat} {w : World} {m k : Nat} {C : Nat → List Cel} {aa : Nat → Option Addr} {cc : Nat → Nat} {A : List Cel} {a0 : Option Addr} {l0 c0 : Nat} {x0 : List Value} (h : OW B w (m * 3) tyC szC (upd aa (k * 3) a0) (upd (nC C) (k * 3) l0) (upd cc (k * 3) c0) (upd (xC C) (k * 3) x0)) (hk : k < m) (hA : C k = A) : Own B w 3 1 (aa (k * 3 + 1)) A.length (cc (k * 3 + 1)) (celD A) := hA ▸ OW.own1' h hk
theorem own2'' {B : Nat} {w : World} {m k : Nat} {C : Nat → List Cel} {aa : Nat → Option Addr} {cc : Nat → Nat} {A : List Cel} {a0 a1 : Option Addr} {l0 l1 c0 c1 : Nat} {x0 x1 : List Value} (h : OW B w (m * 3) tyC szC (upd (upd aa (k * 3) a0) (k * 3 + 1) a1) (upd (upd (nC C) (k * 3) l0) (k * 3 + 1) l1) (upd (upd cc (k * 3) c0) (k * 3 + 1) c1) (upd (upd (xC C) (k * 3) x0) (k * 3 + 1) x1)) (hk : k < m) (hA : C k = A) : Own B w 54 2 (aa (k * 3 + 2)) (celV A).length (cc (k * 3 + 2)) (vcs (celV A)) := hA ▸ OW.own2' h hk
theorem CT.congr14 {B : Nat} {w : World} {bc m : Nat} {C C' : Nat → List Cel} {cur : Array Value} {aa : Nat → Option Addr} {cc : Nat → Nat} (h : CT B w bc m C cur aa cc) (hC : ∀ k, k < m → C k = C' k) : CT B w bc m C' cur aa cc := CT.congr h hC
theorem chg3 {S : Nat → Prop} {a w : World} (h : Chg S a w) {b : Nat} (hb : a.heap.size ≤ b ∨ S b) (i j k : Nat) (y0 y1 y2 : Value) : Chg S a (((w.setCell ⟨b, i, none⟩ y0).setCell ⟨b, j, none⟩ y1).setCell ⟨b, k, none⟩ y2) :=
  ((h.setCell (p := ⟨b, i, none⟩) hb y0).setCell (p := ⟨b, j, none⟩) hb y1).setCell (p := ⟨b, k, none⟩) hb y2
set_option maxHeartbeats 2000000 in
set_option maxRecDepth 100000 in
theorem law_one14 (a0 : Option Addr) (n0 c0 : Nat) (z0 : List Int) (a1 : Option Addr) (n1 c1 : Nat) (zz : List (List Int)) (xs1 : List Value) (w : World) (h0 : Sl (fun b => b < w.heap.size) w 1 a0 n0 c0 (ints z0)) (w0 : ∀ z ∈ z0, (Lit.int .i64 z).wf = true) (h1 : Sl (fun b => b < w.heap.size) w 1 a1 n1 c1 xs1) (h1r : IRows w zz xs1) (w1 : ∀ z ∈ zz, ∀ v ∈ z, (Lit.int .i64 v).wf = true) :
    Calls Try.prog 5 #[.slice a0 n0 c0, .slice a1 n1 c1] w fun e w' => e = .returned (.bool true) ∧ Below w.heap.size w w' := by
  obtain ⟨ii, hii, hz0i, hz1i, hz2i⟩ := info_parts info_i
  obtain ⟨iv, hiv, hz0v, hz1v, hz2v⟩ := info_parts info_vl
  have H0 := Lib.hid h0; have H1 := Lib.hid h1; have HR := Lib.hid h1r; have W0 := Lib.hid w0; have W1 := Lib.hid w1
  clear h0 h1 h1r w0 w1
  go_enter Try.func5, Try.ntmps5
  go_wp2_with fail
  refine (known14 _).mono ?_
  rintro e w1 ⟨rfl, hb1⟩
  have HB1 := Lib.hid hb1; clear hb1
  go_wp2_with fail
  refine (make5 a0 n0 c0 z0 w1 (slb H0.out HB1.out) W0.out).mono ?_
  rintro e w2 ⟨a, cap, rfl, ho, hb2⟩
  have HSC := Lib.hid (Sl.mono (ok' := fun b => b < w2.heap.size) ho.sl (fun k hk _ => hk) (by decide))
  have HB2 := Lib.hid (bt HB1.out hb2)
  clear ho hb2
  go_wp2_with fail
  refine (many_v (makeL z0) (makeSh z0) (make_sch z0) a cap a1 n1 c1 zz xs1 w2 HSC.out (slb H1.out HB2.out) (HR.out.below HB2.out) W1.out).mono ?_
  rintro e w3 ⟨al, cl, ys, rfl, hsl, hrow, hb3⟩
  have HB3 := Lib.hid (bt HB2.out hb3); have HSC3 := Lib.hid (slb HSC.out hb3)
  have HSL := Lib.hid (hsl.mono (ok' := fun b => b < w3.heap.size) (fun k hk _ => hk) (by decide))
  have HROW := Lib.hid (RowAt.g _ _ hrow.at)
  have HOKS := Lib.hid (many_ok14 W1.out (makeSh z0))
  have hx16 := manyT_len (makeSh z0) zz
  have HSCH := Lib.hid (make_sch z0)
  have HZ := Lib.hid (made_colsE (make_sch z0) (make_hgt z0) (many_ok14 W1.out (makeSh z0)) (many_th z0 zz) hx16)
  have HZ1 : Hid (∀ t ∈ manyT (makeSh z0) zz, colsE (makeL z0) (makeSh z0) [t] = 0) := Lib.hid (fun t ht => made_colsE (make_sch z0) (make_hgt z0) (fun u hu => by rw [List.mem_singleton.1 hu]; exact many_ok14 W1.out (makeSh z0) t ht) (fun u hu => by rw [List.mem_singleton.1 hu]; exact many_th z0 zz t ht) (by simp))
  have HCN : Hid (∀ (lf : Nat) (rows : List Tr), (∀ t ∈ rows, t ∈ manyT (makeSh z0) zz) → (rowsC lf (makeSh z0) rows).length ≤ rows.length * 243) := Lib.hid (fun lf rows h => rows_cnt (make_hgt z0) rows (fun t ht => many_th z0 zz t (h t ht)))
  have HWY := Lib.hid (make_wy z0); have HRP := Lib.hid (make_rep z0); have HR0 := Lib.hid (makeSh_good z0).2.2.1
  have hl14 := (make_len z0).2
  generalize manyT (makeSh z0) zz = x at *
  generalize makeL z0 = l at *
  generalize makeSh z0 = sh at *
  clear hsl hrow hb3 HB2 HSC HB1 H0 H1 HR W0 W1
  have hmm := leafs_le (l := l) (m := l.length)
  have HML : Hid (∀ i, i ∈ leafs l l.length ↔ i < l.length ∧ (flN l i).kind ≠ 0) := Lib.hid (fun i => leafs_mem)
  have hmk := fun w => run_make_n (P := Try.prog) 34 46 _ 72 3 Try.underlying34 info_cl14 .i64 .i64 (leafs l l.length).length (by omega) (by omega) w
  go_wp2_with fail
  refine (Cols_v HSCH.out HWY.out HRP.out x a al cap cl ys w3 HSC3.out HSL.out HROW.out).mono ?_
  rintro e w4 ⟨hb4, ⟨hne, _⟩ | ⟨_, B, bc, cur, aa, cc, rfl, hbc, hct⟩⟩
  · exact absurd HZ.out hne
  have HALL := Lib.hid (hct.cols (by unfold maxLen; omega))
  have HB4 := Lib.hid (bt HB3.out hb4); have HSC4 := Lib.hid (slb HSC3.out hb4); have HSL4 := Lib.hid (slb HSL.out hb4); have HROW4 := Lib.hid (RowAt.g _ _ (RowAt.below hb4 _ _ HROW.out.at))
  have HCOL : Hid (∀ (t : Tr) (ht : t ∈ x) (ar : Option Addr) (rc : Nat) (yr : List Value) (w : World), Sl (fun b => b < w.heap.size) w 4 a l.length cap (fls l) → Sl (fun b => b < w.heap.size) w 3 ar 1 rc yr → RowG (fun b => b < w.heap.size) w [t] yr → Calls Try.prog 16 #[.slice a l.length cap, .slice ar 1 rc] w fun e w' => Below w.heap.size w w' ∧ ∃ (B bc : Nat) (cur : Array Value) (aa : Nat → Option Addr) (cc : Nat → Nat), e = .returned (.tuple #[.slice (some ⟨bc, 0, none⟩) (leafs l l.length).length (leafs l l.length).length, .int .i64 0]) ∧ w.heap.size ≤ bc ∧ CT B w' bc (leafs l l.length).length (fun k => rowsC ((leafs l l.length).getD k 0) sh [t]) cur aa cc) := Lib.hid (fun t ht ar rc yr w hs hr hg => (Cols_v HSCH.out HWY.out HRP.out [t] a ar cap rc yr w hs hr hg).mono (by
    rintro e w' ⟨hb, ⟨hne, _⟩ | ⟨_, h⟩⟩
    · exact absurd (HZ1.out t ht) hne
    · exact ⟨hb, h⟩))
  have HNE : Hid (∀ (t : Tr), t ∈ x → ∀ k, k < (leafs l l.length).length → 0 < (rowsC ((leafs l l.length).getD k 0) sh [t]).length) := Lib.hid (fun t ht k hk => by
    have hm := (HML.out _).1 (List.getElem_mem hk)
    have he : (leafs l l.length).getD k 0 = (leafs l l.length)[k] := by simp [List.getD, hk]
    rw [he]
    obtain ⟨c, cs, hc, _⟩ := (rows_ok HSCH.out HR0.out hm.1 hm.2 [t] (fun u hu => by rw [List.mem_singleton.1 hu]; exact HOKS.out t ht)).first (by simp)
    rw [hc]; simp)
  generalize hLF : (fun k => (leafs l l.length).getD k 0) = LF at *
  have HLF : Hid (∀ k, (leafs l l.length).getD k 0 = LF k) := Lib.hid (fun k => congrFun hLF k)
  have hALL := HALL.out
  have hcl : clsC (leafs l l.length).length (fun k => rowsC ((leafs l l.length).getD k 0) sh x) = clsC (leafs l l.length).length (fun k => rowsC (LF k) sh x) := by unfold clsC; exact List.map_congr_left (fun k _ => by (try dsimp only); rw [HLF.out])
  rw [hcl] at hALL
  replace HALL := Lib.hid hALL
  have HCOL2 : Hid (∀ (t : Tr) (ht : t ∈ x) (ar : Option Addr) (rc : Nat) (yr : List Value) (w : World), Sl (fun b => b < w.heap.size) w 4 a l.length cap (fls l) → Sl (fun b => b < w.heap.size) w 3 ar 1 rc yr → RowG (fun b => b < w.heap.size) w [t] yr → Calls Try.prog 16 #[.slice a l.length cap, .slice ar 1 rc] w fun e w' => Below w.heap.size w w' ∧ ∃ (B bc : Nat) (cur : Array Value) (aa : Nat → Option Addr) (cc : Nat → Nat), e = .returned (.tuple #[.slice (some ⟨bc, 0, none⟩) (leafs l l.length).length (leafs l l.length).length, .int .i64 0]) ∧ w.heap.size ≤ bc ∧ CT B w' bc (leafs l l.length).length (fun k => rowsC (LF k) sh [t]) cur aa cc) := Lib.hid (fun t ht ar rc yr w hs hr hg => (HCOL.out t ht ar rc yr w hs hr hg).mono (by
    rintro e w' ⟨hb, B, bc, cur, aa, cc, h1, h2, h3⟩
    exact ⟨hb, B, bc, cur, aa, cc, h1, h2, h3.congr14 (fun k _ => by (try dsimp only); rw [HLF.out])⟩))
  have HNE2 : Hid (∀ (t : Tr), t ∈ x → ∀ k, k < (leafs l l.length).length → 0 < (rowsC (LF k) sh [t]).length) := Lib.hid (fun t ht k hk => by rw [← HLF.out]; exact HNE.out t ht k hk)
  clear hb4 hct HZ HZ1 HRP HWY HB3 HSC3 HSL HROW hALL hcl HCOL HNE hLF HML HOKS HLF
  generalize (leafs l l.length).length = m at *
  go_upto_region 7 with fail
  refine gen_wz (fun w5 hw5 => ?_)
  have hb5 : Below w4.heap.size w4 w5 := by rw [hw5]; exact ba (b0 w4) _
  have r5 : Rw w5 w4.heap.size (madeCells #[.slice none 0 0, .slice none 0 0, .slice none 0 0] (m * 3)) 46 := by rw [hw5]; exact Rw.new w4 _ _
  clear hw5 hmk
  obtain ⟨bg, hbg⟩ : ∃ b, b = w4.heap.size := ⟨_, rfl⟩
  rw [← hbg] at r5 ⊢
  have hb45 : w4.heap.size ≤ bg := by omega
  have HG5 := Lib.hid (CT.zero r5 r5.lt)
  have HB45 := Lib.hid (show Below w4.heap.size w4 w5 from hb5)
  clear hb5 r5 hbg
  go_wp2_with fail
  go_loopw [10] (fun iv wr => ∃ (i : Nat) (cur : Array Value) (aa : Nat → Option Addr) (cc : Nat → Nat), iv = .int .i64 (i : Int) ∧ i ≤ x.length ∧ Hid (CT w5.heap.size wr bg m (fun k => rowsC (LF k) sh (x.take i)) cur aa cc) ∧ Hid (Below w4.heap.size w4 wr) ∧ w5.heap.size ≤ wr.heap.size) (fun iv _ => x.length - (intOf iv).toNat)
  case atStart => exact ⟨0, _, _, _, rfl, Nat.zero_le _, Lib.hid (HG5.out.congr14 (fun k _ => by simp [rowsC])), HB45, Nat.le_refl _⟩
  case round =>
    obtain ⟨i, curg, aag, ccg, rfl, hi, HG, HB, hw5i⟩ := hrel
    obtain ⟨wi, hwi⟩ : ∃ wi : World, wi = wr := ⟨_, rfl⟩
    subst hwi
    by_cases hil : i < x.length
    · have hsl := slb HSL4.out HB.out
      have hrw := RowAt.g _ _ (RowAt.below HB.out _ _ HROW4.out.at)
      obtain ⟨ap, hrun, hsp⟩ := Sl.part (P := Try.prog) (t := 24) (e := 29) Try.underlying24 (info_parts info_tr).choose_spec.1 (info_parts info_tr).choose_spec.2.2.1 hsl .i64 .i64 (i : Int) ((i : Int) + 1) (by omega) (by omega) (by omega)
      have e1 : ((i : Int) + 1).toNat - ((i : Int)).toNat = 1 := by omega
      have e2 : ((i : Int)).toNat = i := by omega
      rw [e1, e2] at hrun hsp
      have hgp := rowG_part i 1 hrw
      have hxi : (x.drop i).take 1 = [x[i]] := by rw [List.take_one, List.head?_drop, List.getElem?_eq_getElem hil]; rfl
      rw [hxi] at hgp
      have HSP := Lib.hid hsp; have HGP := Lib.hid hgp
      have HTX := Lib.hid (List.getElem_mem hil)
      have HTK : Hid (x.take (i + 1) = x.take i ++ [x[i]]) := Lib.hid (List.take_succ_eq_append_getElem hil)
      have HMT : Hid (∀ t ∈ x.take i, t ∈ x) := Lib.hid (fun t ht => List.mem_of_mem_take ht)
      have hszi := HB.out.size
      have hg5 := HG.out.lt
      generalize x[i] = t at *
      clear e1 e2 hgp hxi hsp hsl hrw
      go_wp2_with fail
      refine (HCOL2.out t HTX.out ap (cl - i) _ wi (slb HSC4.out HB.out) HSP.out HGP.out).mono ?_
      rintro e w8 ⟨hb8, Bx, bx, curx, ax, cx, rfl, hbx, hctx⟩
      have HX := Lib.hid hctx; have HB8 := Lib.hid (bt HB.out hb8); have HG8 := Lib.hid (HG.out.below hb8)
      have hsz8 := hb8.size
      have hxB := hctx.lt
      have hxl := hctx.row.lt
      have hmm2 : ((m : Int) != (m : Int)) = false := by simp
      have HAG : Hid (∀ j g, j < m * 3 → blk (aag j) g → g < wi.heap.size ∨ w8.heap.size ≤ g) := Lib.hid (fun j g hj hg => .inl (HG.out.ow.lt j g hj hg).1)
      have HLA : Hid (∀ k, (rowsC (LF k) sh (x.take i)).length ≤ 4000) := Lib.hid (fun k => by
        have h1 := HCN.out (LF k) (x.take i) HMT.out
        rw [List.length_take] at h1
        omega)
      have HLD : Hid (∀ k, (rowsC (LF k) sh [t]).length ≤ 243) := Lib.hid (fun k => by
        have h1 := HCN.out (LF k) [t] (fun u hu => by rw [List.mem_singleton.1 hu]; exact HTX.out)
        simpa using h1)
      have HND := Lib.hid (HNE2.out t HTX.out)
      have HMX : Hid (∀ k, rowsC (LF k) sh (x.take (i + 1)) = rowsC (LF k) sh (x.take i) ++ rowsC (LF k) sh [t]) := Lib.hid (fun k => by rw [HTK.out, rowsC_app])
      have hX14 := HX.out.congr14 (C' := fun k => rowsC (LF k) sh [t]) (fun _ _ => rfl)
      obtain ⟨A, hA⟩ : ∃ A : Nat → List Cel, A = fun k => rowsC (LF k) sh (x.take i) := ⟨_, rfl⟩
      obtain ⟨D, hD⟩ : ∃ D : Nat → List Cel, D = fun k => rowsC (LF k) sh [t] := ⟨_, rfl⟩
      have HG9 : Hid (CT w5.heap.size w8 bg m (mixC A D 0) curg aag ccg) := Lib.hid (HG8.out.congr14 (fun k _ => by simp [mixC, hA]))
      have HX9 : Hid (CT Bx w8 bx m D curx ax cx) := Lib.hid (by rw [hD]; exact hX14)
      have HMX9 : Hid (∀ k, rowsC (LF k) sh (x.take (i + 1)) = A k ++ D k) := Lib.hid (fun k => by rw [HMX.out, hA, hD])
      have HLA9 : Hid (∀ k, (A k).length ≤ 4000) := Lib.hid (fun k => by rw [hA]; exact HLA.out k)
      have HLD9 : Hid (∀ k, (D k).length ≤ 243) := Lib.hid (fun k => by rw [hD]; exact HLD.out k)
      have HND9 : Hid (∀ k, k < m → 0 < (D k).length) := Lib.hid (fun k hk => by rw [hD]; exact HND.out k hk)
      clear hb8 hctx hA hD hX14 HMX HLA HLD HND HG8 HG HX HSP HGP HTX HTK HMT hrun
      go_wp2_with fail
      clear hmm2
      go_loopw [13] (fun kv wq => ∃ (k : Nat) (cur : Array Value) (aa : Nat → Option Addr) (cc : Nat → Nat), kv = .int .i64 (k : Int) ∧ k ≤ m ∧ Hid (CT w5.heap.size wq bg m (mixC A D k) cur aa cc) ∧ Hid (∀ j g, j < m * 3 → blk (aa j) g → g < wi.heap.size ∨ w8.heap.size ≤ g) ∧ Hid (Chg (fun b => b < wi.heap.size) w8 wq) ∧ Hid (Below w4.heap.size w4 wq)) (fun kv _ => m - (intOf kv).toNat)
      case atStart => exact ⟨0, _, _, _, rfl, Nat.zero_le _, HG9, HAG, Lib.hid (Chg.refl _ _), HB8⟩
      case round =>
        obtain ⟨k, cur1, aa1, cc1, rfl, hk, HGk, HAk, HCk, HBk⟩ := hrel
        by_cases hkm : k < m
        · have hx := HX9.out.chg HCk.out (fun g h1 h2 h3 => by rcases h2 with rfl | h2 <;> omega)
          have g0 := HGk.out.cell0 hkm; have g1 := HGk.out.cell1 hkm; have g2 := HGk.out.cell2 hkm
          have x0 := hx.cell0 hkm; have x1 := hx.cell1 hkm; have x2 := hx.cell2 hkm
          rw [mixC_at] at g0 g1 g2
          have HXO0 := Lib.hid (OW.own0 hx.ow hkm); have HXO1 := Lib.hid (OW.own1 hx.ow hkm); have HXO2 := Lib.hid (OW.own2 hx.ow hkm)
          have HXL0 : Hid (∀ g, blk (ax (k * 3)) g → wi.heap.size ≤ g ∧ g < w8.heap.size) := Lib.hid (fun g hg => by have := HX9.out.ow.lt _ g (by omega) hg; omega)
          have HXL1 : Hid (∀ g, blk (ax (k * 3 + 1)) g → wi.heap.size ≤ g ∧ g < w8.heap.size) := Lib.hid (fun g hg => by have := HX9.out.ow.lt _ g (by omega) hg; omega)
          have HXL2 : Hid (∀ g, blk (ax (k * 3 + 2)) g → wi.heap.size ≤ g ∧ g < w8.heap.size) := Lib.hid (fun g hg => by have := HX9.out.ow.lt _ g (by omega) hg; omega)
          have HRX := Lib.hid hx.row
          have hla := HLA9.out k; have hld := HLD9.out k; have hnd := HND9.out k hkm
          have hva := celV_le (A k); have hvd := celV_le (D k)
          have hH := HGk.out.hds
          have hcR : cur1[k * 3]? = some (.slice (aa1 (k * 3)) (A k).length (cc1 (k * 3))) := (hH (k * 3) (by omega)).trans (by rw [(Go.Proofs.Ytibhcibcfommeaa.n0 _ k).1, mixC_at])
          have hcD : cur1[k * 3 + 1]? = some (.slice (aa1 (k * 3 + 1)) (A k).length (cc1 (k * 3 + 1))) := (hH (k * 3 + 1) (by omega)).trans (by rw [(Go.Proofs.Ytibhcibcfommeaa.n1 _ k).1, mixC_at])
          have hcV : cur1[k * 3 + 2]? = some (.slice (aa1 (k * 3 + 2)) (celV (A k)).length (cc1 (k * 3 + 2))) := (hH (k * 3 + 2) (by omega)).trans (by rw [(Go.Proofs.Ytibhcibcfommeaa.n2 _ k).1, mixC_at])
          have hHX := HX9.out.hds
          have hxR : curx[k * 3]? = some (.slice (ax (k * 3)) (D k).length (cx (k * 3))) := (hHX (k * 3) (by omega)).trans (by rw [(Go.Proofs.Ytibhcibcfommeaa.n0 _ k).1])
          have hxD : curx[k * 3 + 1]? = some (.slice (ax (k * 3 + 1)) (D k).length (cx (k * 3 + 1))) := (hHX (k * 3 + 1) (by omega)).trans (by rw [(Go.Proofs.Ytibhcibcfommeaa.n1 _ k).1])
          have hxV : curx[k * 3 + 2]? = some (.slice (ax (k * 3 + 2)) (celV (D k)).length (cx (k * 3 + 2))) := (hHX (k * 3 + 2) (by omega)).trans (by rw [(Go.Proofs.Ytibhcibcfommeaa.n2 _ k).1])
          have hbxg : bx ≠ bg := by omega
          have hszk := HCk.out.size
          have HH0 := Lib.hid hH
          have HW5k : Hid (w5.heap.size ≤ wr.heap.size) := Lib.hid (by omega)
          clear hH hHX hx
          go_upto_region 16 with fail
          clear g0 g1 g2 x0 x1 x2
          by_cases hv : (celV (D k)).length = 0
          · have HV0 : Hid (celV (D k) = []) := Lib.hid (List.eq_nil_of_length_eq_zero hv)
            rw [hv] at hxV
            clear hv
            refine wp_region_F (fun w' => (w'.cell? ⟨bg, k * 3, none⟩ = some (.slice (aa1 (k * 3)) (A k).length (cc1 (k * 3))) ∧ w'.cell? ⟨bg, k * 3 + 1, none⟩ = some (.slice (aa1 (k * 3 + 1)) (A k).length (cc1 (k * 3 + 1))) ∧ w'.cell? ⟨bg, k * 3 + 2, none⟩ = some (.slice (aa1 (k * 3 + 2)) (celV (A k)).length (cc1 (k * 3 + 2)))) ∧ w'.cell? ⟨bx, k * 3, none⟩ = some (.slice (ax (k * 3)) (D k).length (cx (k * 3))) ∧ w'.cell? ⟨bx, k * 3 + 1, none⟩ = some (.slice (ax (k * 3 + 1)) (D k).length (cx (k * 3 + 1))) ∧ w'.cell? ⟨bx, k * 3 + 2, none⟩ = some (.slice (ax (k * 3 + 2)) 0 (cx (k * 3 + 2)))) [36, 37] (by kernel_rfl) ?g4rgS (fun hHeld => ?g4rgR)
            case g4rgS => (try dsimp only); (first | exact ⟨⟨(HGk.out.row.drew.cell _).trans hcR, (HGk.out.row.drew.cell _).trans hcD, (HGk.out.row.drew.cell _).trans hcV⟩, (HRX.out.drew.cell _).trans hxR, (HRX.out.drew.cell _).trans hxD, (HRX.out.drew.cell _).trans hxV⟩ | exact ⟨⟨(row.cell _).trans hcR, (row.cell _).trans hcD, (row.cell _).trans hcV⟩, (rx.cell _).trans hxR, (rx.cell _).trans hxD, (rx.cell _).trans hxV⟩)
            try dsimp only at hHeld
            obtain ⟨W, hW⟩ : ∃ W, W = wr.drew := ⟨_, rfl⟩; rw [← hW] at hHeld ⊢; (have row := Rw.ren hW HGk.out.row.drew); (have how : OW w5.heap.size W (m * 3) tyC szC aa1 (nC (mixC A D k)) cc1 (xC (mixC A D k)) := by rw [hW]; exact HGk.out.ow.below (b0 wr).drew); (have rx := Rw.ren hW HRX.out.drew); (have o0 : Own Bx W 3 1 (ax (k * 3)) (D k).length (cx (k * 3)) (celR (D k)) := by rw [hW]; exact HXO0.out.drew); (have o1 : Own Bx W 3 1 (ax (k * 3 + 1)) (D k).length (cx (k * 3 + 1)) (celD (D k)) := by rw [hW]; exact HXO1.out.drew); (have o2 : Own Bx W 54 2 (ax (k * 3 + 2)) (celV (D k)).length (cx (k * 3 + 2)) (vcs (celV (D k))) := by rw [hW]; exact HXO2.out.drew); (have hch : Chg (fun b => b < wi.heap.size) w8 W := by rw [hW]; exact HCk.out.drew); (have hHB : Below w4.heap.size w4 W := by rw [hW]; exact HBk.out.drew); (have hBW : w5.heap.size ≤ W.heap.size := by rw [hW]; exact HW5k.out); (have hzW : w8.heap.size ≤ W.heap.size := hch.size); clear hW
            refine wpAnyF_take 0 (oi := ⟨some 61, .move (.tmp 9), 34, "law.go:153", #[], none⟩) (v := ?g4rv1) rfl (by kernel_rfl) (fun _ _ _ h => h) (by assumption) (by rfl) ?g4ry1 ?g4rr1
            case g4ry1 => intro w hSw; obtain ⟨⟨s0, s1, s2⟩, s3, s4, s5⟩ := hSw; go_simp; try with_reducible rfl
            try simp only [Act.put, List.setIfInBounds_toArray, List.set_cons_zero, List.set_cons_succ]
            refine wpAnyF_take 1 (oi := ⟨some 62, .move (.tmp 13), 3, "law.go:153", #[], none⟩) (v := ?g4rv2) rfl (by kernel_rfl) (fun _ _ _ h => h) (by assumption) (by rfl) ?g4ry2 ?g4rr2
            case g4ry2 => intro w hSw; obtain ⟨⟨s0, s1, s2⟩, s3, s4, s5⟩ := hSw; go_simp; try with_reducible rfl
            try simp only [Act.put, List.setIfInBounds_toArray, List.set_cons_zero, List.set_cons_succ]
            refine wpAnyF_take 2 (oi := ⟨some 63, .move (.tmp 9), 34, "law.go:153", #[], none⟩) (v := ?g4rv3) rfl (by kernel_rfl) (fun _ _ _ h => h) (by assumption) (by rfl) ?g4ry3 ?g4rr3
            case g4ry3 => intro w hSw; obtain ⟨⟨s0, s1, s2⟩, s3, s4, s5⟩ := hSw; go_simp; try with_reducible rfl
            try simp only [Act.put, List.setIfInBounds_toArray, List.set_cons_zero, List.set_cons_succ]
            refine wpAnyF_take 3 (oi := ⟨some 64, .move (.tmp 13), 3, "law.go:153", #[], none⟩) (v := ?g4rv4) rfl (by kernel_rfl) (fun _ _ _ h => h) (by assumption) (by rfl) ?g4ry4 ?g4rr4
            case g4ry4 => intro w hSw; obtain ⟨⟨s0, s1, s2⟩, s3, s4, s5⟩ := hSw; go_simp; try with_reducible rfl
            try simp only [Act.put, List.setIfInBounds_toArray, List.set_cons_zero, List.set_cons_succ]
            refine wpAnyF_take 4 (oi := ⟨some 65, .indexAddr 34 (.tmp 63) (.tmp 64), 0, "law.go:153", #[⟨2, .data⟩, ⟨3, .data⟩], none⟩) (v := ?g4rv5) rfl (by kernel_rfl) (fun _ _ _ h => h) (by assumption) (by rfl) ?g4ry5 ?g4rr5
            case g4ry5 => intro w hSw; obtain ⟨⟨s0, s1, s2⟩, s3, s4, s5⟩ := hSw; go_simp; try with_reducible rfl
            try simp only [Act.put, List.setIfInBounds_toArray, List.set_cons_zero, List.set_cons_succ]
            refine wpAnyF_take 5 (oi := ⟨some 66, .fieldAddr 46 (.tmp 65) 0, 0, "law.go:153", #[⟨4, .data⟩], none⟩) (v := ?g4rv6) rfl (by kernel_rfl) (fun _ _ _ h => h) (by assumption) (by rfl) ?g4ry6 ?g4rr6
            case g4ry6 => intro w hSw; obtain ⟨⟨s0, s1, s2⟩, s3, s4, s5⟩ := hSw; go_simp; try with_reducible rfl
            try simp only [Act.put, List.setIfInBounds_toArray, List.set_cons_zero, List.set_cons_succ]
            refine wpAnyF_take 6 (oi := ⟨some 67, .load 22 (.tmp 66), 22, "law.go:153", #[⟨5, .data⟩], none⟩) (v := ?g4rv7) rfl (by kernel_rfl) (fun _ _ _ h => h) (by assumption) (by rfl) ?g4ry7 ?g4rr7
            case g4ry7 => intro w hSw; obtain ⟨⟨s0, s1, s2⟩, s3, s4, s5⟩ := hSw; go_simp; try with_reducible rfl
            try simp only [Act.put, List.setIfInBounds_toArray, List.set_cons_zero, List.set_cons_succ]
            refine wpAnyF_take 7 (oi := ⟨some 68, .move (.tmp 11), 34, "law.go:153", #[], none⟩) (v := ?g4rv8) rfl (by kernel_rfl) (fun _ _ _ h => h) (by assumption) (by rfl) ?g4ry8 ?g4rr8
            case g4ry8 => intro w hSw; obtain ⟨⟨s0, s1, s2⟩, s3, s4, s5⟩ := hSw; go_simp; try with_reducible rfl
            try simp only [Act.put, List.setIfInBounds_toArray, List.set_cons_zero, List.set_cons_succ]
            refine wpAnyF_take 8 (oi := ⟨some 69, .move (.tmp 13), 3, "law.go:153", #[], none⟩) (v := ?g4rv9) rfl (by kernel_rfl) (fun _ _ _ h => h) (by assumption) (by rfl) ?g4ry9 ?g4rr9
            case g4ry9 => intro w hSw; obtain ⟨⟨s0, s1, s2⟩, s3, s4, s5⟩ := hSw; go_simp; try with_reducible rfl
            try simp only [Act.put, List.setIfInBounds_toArray, List.set_cons_zero, List.set_cons_succ]
            refine wpAnyF_take 9 (oi := ⟨some 70, .indexAddr 34 (.tmp 68) (.tmp 69), 0, "law.go:153", #[⟨7, .data⟩, ⟨8, .data⟩], none⟩) (v := ?g4rv10) rfl (by kernel_rfl) (fun _ _ _ h => h) (by assumption) (by rfl) ?g4ry10 ?g4rr10
            case g4ry10 => intro w hSw; obtain ⟨⟨s0, s1, s2⟩, s3, s4, s5⟩ := hSw; go_simp; try with_reducible rfl
            try simp only [Act.put, List.setIfInBounds_toArray, List.set_cons_zero, List.set_cons_succ]
            refine wpAnyF_take 10 (oi := ⟨some 71, .fieldAddr 46 (.tmp 70) 0, 0, "law.go:153", #[⟨9, .data⟩], none⟩) (v := ?g4rv11) rfl (by kernel_rfl) (fun _ _ _ h => h) (by assumption) (by rfl) ?g4ry11 ?g4rr11
            case g4ry11 => intro w hSw; obtain ⟨⟨s0, s1, s2⟩, s3, s4, s5⟩ := hSw; go_simp; try with_reducible rfl
            try simp only [Act.put, List.setIfInBounds_toArray, List.set_cons_zero, List.set_cons_succ]
            refine wpAnyF_take 11 (oi := ⟨some 72, .load 22 (.tmp 71), 22, "law.go:153", #[⟨10, .data⟩], none⟩) (v := ?g4rv12) rfl (by kernel_rfl) (fun _ _ _ h => h) (by assumption) (by rfl) ?g4ry12 ?g4rr12
            case g4ry12 => intro w hSw; obtain ⟨⟨s0, s1, s2⟩, s3, s4, s5⟩ := hSw; go_simp; try with_reducible rfl
            try simp only [Act.put, List.setIfInBounds_toArray, List.set_cons_zero, List.set_cons_succ]
            refine wpAnyF_take 13 (oi := ⟨some 74, .move (.tmp 9), 34, "law.go:153", #[], none⟩) (v := ?g4rv13) rfl (by kernel_rfl) (fun _ _ _ h => h) (by assumption) (by rfl) ?g4ry13 ?g4rr13
            case g4ry13 => intro w hSw; obtain ⟨⟨s0, s1, s2⟩, s3, s4, s5⟩ := hSw; go_simp; try with_reducible rfl
            try simp only [Act.put, List.setIfInBounds_toArray, List.set_cons_zero, List.set_cons_succ]
            refine wpAnyF_take 14 (oi := ⟨some 75, .move (.tmp 13), 3, "law.go:153", #[], none⟩) (v := ?g4rv14) rfl (by kernel_rfl) (fun _ _ _ h => h) (by assumption) (by rfl) ?g4ry14 ?g4rr14
            case g4ry14 => intro w hSw; obtain ⟨⟨s0, s1, s2⟩, s3, s4, s5⟩ := hSw; go_simp; try with_reducible rfl
            try simp only [Act.put, List.setIfInBounds_toArray, List.set_cons_zero, List.set_cons_succ]
            refine wpAnyF_take 15 (oi := ⟨some 76, .indexAddr 34 (.tmp 74) (.tmp 75), 0, "law.go:153", #[⟨13, .data⟩, ⟨14, .data⟩], none⟩) (v := ?g4rv15) rfl (by kernel_rfl) (fun _ _ _ h => h) (by assumption) (by rfl) ?g4ry15 ?g4rr15
            case g4ry15 => intro w hSw; obtain ⟨⟨s0, s1, s2⟩, s3, s4, s5⟩ := hSw; go_simp; try with_reducible rfl
            try simp only [Act.put, List.setIfInBounds_toArray, List.set_cons_zero, List.set_cons_succ]
            refine wpAnyF_take 16 (oi := ⟨some 77, .fieldAddr 46 (.tmp 76) 1, 0, "law.go:153", #[⟨15, .data⟩], none⟩) (v := ?g4rv16) rfl (by kernel_rfl) (fun _ _ _ h => h) (by assumption) (by rfl) ?g4ry16 ?g4rr16
            case g4ry16 => intro w hSw; obtain ⟨⟨s0, s1, s2⟩, s3, s4, s5⟩ := hSw; go_simp; try with_reducible rfl
            try simp only [Act.put, List.setIfInBounds_toArray, List.set_cons_zero, List.set_cons_succ]
            refine wpAnyF_take 17 (oi := ⟨some 78, .load 22 (.tmp 77), 22, "law.go:153", #[⟨16, .data⟩], none⟩) (v := ?g4rv17) rfl (by kernel_rfl) (fun _ _ _ h => h) (by assumption) (by rfl) ?g4ry17 ?g4rr17
            case g4ry17 => intro w hSw; obtain ⟨⟨s0, s1, s2⟩, s3, s4, s5⟩ := hSw; go_simp; try with_reducible rfl
            try simp only [Act.put, List.setIfInBounds_toArray, List.set_cons_zero, List.set_cons_succ]
            refine wpAnyF_take 18 (oi := ⟨some 79, .move (.tmp 11), 34, "law.go:153", #[], none⟩) (v := ?g4rv18) rfl (by kernel_rfl) (fun _ _ _ h => h) (by assumption) (by rfl) ?g4ry18 ?g4rr18
            case g4ry18 => intro w hSw; obtain ⟨⟨s0, s1, s2⟩, s3, s4, s5⟩ := hSw; go_simp; try with_reducible rfl
            try simp only [Act.put, List.setIfInBounds_toArray, List.set_cons_zero, List.set_cons_succ]
            refine wpAnyF_take 19 (oi := ⟨some 80, .move (.tmp 13), 3, "law.go:153", #[], none⟩) (v := ?g4rv19) rfl (by kernel_rfl) (fun _ _ _ h => h) (by assumption) (by rfl) ?g4ry19 ?g4rr19
            case g4ry19 => intro w hSw; obtain ⟨⟨s0, s1, s2⟩, s3, s4, s5⟩ := hSw; go_simp; try with_reducible rfl
            try simp only [Act.put, List.setIfInBounds_toArray, List.set_cons_zero, List.set_cons_succ]
            refine wpAnyF_take 20 (oi := ⟨some 81, .indexAddr 34 (.tmp 79) (.tmp 80), 0, "law.go:153", #[⟨18, .data⟩, ⟨19, .data⟩], none⟩) (v := ?g4rv20) rfl (by kernel_rfl) (fun _ _ _ h => h) (by assumption) (by rfl) ?g4ry20 ?g4rr20
            case g4ry20 => intro w hSw; obtain ⟨⟨s0, s1, s2⟩, s3, s4, s5⟩ := hSw; go_simp; try with_reducible rfl
            try simp only [Act.put, List.setIfInBounds_toArray, List.set_cons_zero, List.set_cons_succ]
            refine wpAnyF_take 21 (oi := ⟨some 82, .fieldAddr 46 (.tmp 81) 1, 0, "law.go:153", #[⟨20, .data⟩], none⟩) (v := ?g4rv21) rfl (by kernel_rfl) (fun _ _ _ h => h) (by assumption) (by rfl) ?g4ry21 ?g4rr21
            case g4ry21 => intro w hSw; obtain ⟨⟨s0, s1, s2⟩, s3, s4, s5⟩ := hSw; go_simp; try with_reducible rfl
            try simp only [Act.put, List.setIfInBounds_toArray, List.set_cons_zero, List.set_cons_succ]
            refine wpAnyF_take 22 (oi := ⟨some 83, .load 22 (.tmp 82), 22, "law.go:153", #[⟨21, .data⟩], none⟩) (v := ?g4rv22) rfl (by kernel_rfl) (fun _ _ _ h => h) (by assumption) (by rfl) ?g4ry22 ?g4rr22
            case g4ry22 => intro w hSw; obtain ⟨⟨s0, s1, s2⟩, s3, s4, s5⟩ := hSw; go_simp; try with_reducible rfl
            try simp only [Act.put, List.setIfInBounds_toArray, List.set_cons_zero, List.set_cons_succ]
            refine wpAnyF_take 24 (oi := ⟨some 85, .move (.tmp 9), 34, "law.go:153", #[], none⟩) (v := ?g4rv23) rfl (by kernel_rfl) (fun _ _ _ h => h) (by assumption) (by rfl) ?g4ry23 ?g4rr23
            case g4ry23 => intro w hSw; obtain ⟨⟨s0, s1, s2⟩, s3, s4, s5⟩ := hSw; go_simp; try with_reducible rfl
            try simp only [Act.put, List.setIfInBounds_toArray, List.set_cons_zero, List.set_cons_succ]
            refine wpAnyF_take 25 (oi := ⟨some 86, .move (.tmp 13), 3, "law.go:153", #[], none⟩) (v := ?g4rv24) rfl (by kernel_rfl) (fun _ _ _ h => h) (by assumption) (by rfl) ?g4ry24 ?g4rr24
            case g4ry24 => intro w hSw; obtain ⟨⟨s0, s1, s2⟩, s3, s4, s5⟩ := hSw; go_simp; try with_reducible rfl
            try simp only [Act.put, List.setIfInBounds_toArray, List.set_cons_zero, List.set_cons_succ]
            refine wpAnyF_take 26 (oi := ⟨some 87, .indexAddr 34 (.tmp 85) (.tmp 86), 0, "law.go:153", #[⟨24, .data⟩, ⟨25, .data⟩], none⟩) (v := ?g4rv25) rfl (by kernel_rfl) (fun _ _ _ h => h) (by assumption) (by rfl) ?g4ry25 ?g4rr25
            case g4ry25 => intro w hSw; obtain ⟨⟨s0, s1, s2⟩, s3, s4, s5⟩ := hSw; go_simp; try with_reducible rfl
            try simp only [Act.put, List.setIfInBounds_toArray, List.set_cons_zero, List.set_cons_succ]
            refine wpAnyF_take 27 (oi := ⟨some 88, .fieldAddr 46 (.tmp 87) 2, 0, "law.go:153", #[⟨26, .data⟩], none⟩) (v := ?g4rv26) rfl (by kernel_rfl) (fun _ _ _ h => h) (by assumption) (by rfl) ?g4ry26 ?g4rr26
            case g4ry26 => intro w hSw; obtain ⟨⟨s0, s1, s2⟩, s3, s4, s5⟩ := hSw; go_simp; try with_reducible rfl
            try simp only [Act.put, List.setIfInBounds_toArray, List.set_cons_zero, List.set_cons_succ]
            refine wpAnyF_take 28 (oi := ⟨some 89, .load 44 (.tmp 88), 44, "law.go:153", #[⟨27, .data⟩], none⟩) (v := ?g4rv27) rfl (by kernel_rfl) (fun _ _ _ h => h) (by assumption) (by rfl) ?g4ry27 ?g4rr27
            case g4ry27 => intro w hSw; obtain ⟨⟨s0, s1, s2⟩, s3, s4, s5⟩ := hSw; go_simp; try with_reducible rfl
            try simp only [Act.put, List.setIfInBounds_toArray, List.set_cons_zero, List.set_cons_succ]
            refine wpAnyF_take 29 (oi := ⟨some 90, .move (.tmp 11), 34, "law.go:153", #[], none⟩) (v := ?g4rv28) rfl (by kernel_rfl) (fun _ _ _ h => h) (by assumption) (by rfl) ?g4ry28 ?g4rr28
            case g4ry28 => intro w hSw; obtain ⟨⟨s0, s1, s2⟩, s3, s4, s5⟩ := hSw; go_simp; try with_reducible rfl
            try simp only [Act.put, List.setIfInBounds_toArray, List.set_cons_zero, List.set_cons_succ]
            refine wpAnyF_take 30 (oi := ⟨some 91, .move (.tmp 13), 3, "law.go:153", #[], none⟩) (v := ?g4rv29) rfl (by kernel_rfl) (fun _ _ _ h => h) (by assumption) (by rfl) ?g4ry29 ?g4rr29
            case g4ry29 => intro w hSw; obtain ⟨⟨s0, s1, s2⟩, s3, s4, s5⟩ := hSw; go_simp; try with_reducible rfl
            try simp only [Act.put, List.setIfInBounds_toArray, List.set_cons_zero, List.set_cons_succ]
            refine wpAnyF_take 31 (oi := ⟨some 92, .indexAddr 34 (.tmp 90) (.tmp 91), 0, "law.go:153", #[⟨29, .data⟩, ⟨30, .data⟩], none⟩) (v := ?g4rv30) rfl (by kernel_rfl) (fun _ _ _ h => h) (by assumption) (by rfl) ?g4ry30 ?g4rr30
            case g4ry30 => intro w hSw; obtain ⟨⟨s0, s1, s2⟩, s3, s4, s5⟩ := hSw; go_simp; try with_reducible rfl
            try simp only [Act.put, List.setIfInBounds_toArray, List.set_cons_zero, List.set_cons_succ]
            refine wpAnyF_take 32 (oi := ⟨some 93, .fieldAddr 46 (.tmp 92) 2, 0, "law.go:153", #[⟨31, .data⟩], none⟩) (v := ?g4rv31) rfl (by kernel_rfl) (fun _ _ _ h => h) (by assumption) (by rfl) ?g4ry31 ?g4rr31
            case g4ry31 => intro w hSw; obtain ⟨⟨s0, s1, s2⟩, s3, s4, s5⟩ := hSw; go_simp; try with_reducible rfl
            try simp only [Act.put, List.setIfInBounds_toArray, List.set_cons_zero, List.set_cons_succ]
            refine wpAnyF_take 33 (oi := ⟨some 94, .load 44 (.tmp 93), 44, "law.go:153", #[⟨32, .data⟩], none⟩) (v := ?g4rv32) rfl (by kernel_rfl) (fun _ _ _ h => h) (by assumption) (by rfl) ?g4ry32 ?g4rr32
            case g4ry32 => intro w hSw; obtain ⟨⟨s0, s1, s2⟩, s3, s4, s5⟩ := hSw; go_simp; try with_reducible rfl
            try simp only [Act.put, List.setIfInBounds_toArray, List.set_cons_zero, List.set_cons_succ]
            refine wpAnyF_ready [12] (by kernel_rfl) (by simp) ?_
            refine AllReadyF.cons 12 (o := ⟨some 73, .call { callee := .builtin .append, args := #[.tmp 67, .tmp 72], argTypes := #[22, 22] }, 22, "law.go:153", #[⟨6, .data⟩, ⟨11, .data⟩], none⟩) rfl (fun K hK => ?g4ro33) ?g4rm33
            case g4rm33 => exact AllReadyF.nil
            (have hk0 := own0' how hkm (mixC_at A D k)); (refine step_append (B := w5.heap.size) rfl _ _ _ _ rfl ii (.int .i64 0) 8 Try.underlying22 hii hz0i hz1i hz2i rfl rfl hk0 _ rfl _ _ (o0.sl.src (P := Try.prog) (tx := 22) Try.underlying22 (celR_one _)) (by simp only [maxLen]; omega) (by omega) hBW ?_; intro a12 cap12 W12 ho12 hc12 hn12); (have hno : ∀ g, wi.heap.size ≤ g → g < w8.heap.size → ¬ (blk (aa1 (k * 3)) g ∧ w5.heap.size ≤ g ∧ 0 < cc1 (k * 3)) := fun g h1 h2 h => by rcases HAk.out _ _ (by omega) h.1 with h3 | h3 <;> omega); (replace row := row.chg hc12 (fun h => by have := h.2.1; omega)); (replace rx := rx.chg hc12 (hno bx hbx hxl)); (replace o0 := o0.chg hc12 (fun g hg => hno g (HXL0.out g hg).1 (HXL0.out g hg).2)); (replace o1 := o1.chg hc12 (fun g hg => hno g (HXL1.out g hg).1 (HXL1.out g hg).2)); (replace o2 := o2.chg hc12 (fun g hg => hno g (HXL2.out g hg).1 (HXL2.out g hg).2)); (replace hch := hch.trans hc12 (fun g hg h => by rcases HAk.out _ _ (by omega) h.1 with h3 | h3 <;> omega)); (replace hHB := Chg.bt hHB hc12 (fun g hg h => by have := h.2.1; omega)); (have hN12 : ∀ g, blk a12 g → g < wi.heap.size ∨ w8.heap.size ≤ g := fun g hg => by rcases hn12 g hg with h1 | h1; exact HAk.out _ _ (by omega) h1; exact .inr (Nat.le_trans hzW h1)); (replace hBW := Nat.le_trans hBW hc12.size); (replace hzW := Nat.le_trans hzW hc12.size); (replace how := OW.push0 how hkm (by omega) ho12 hc12 hn12); clear ho12 hc12 hn12 hno hk0
            refine hK.out _ _ ?g4rs33 (fun hHeld => ?g4rt33)
            case g4rs33 => (try dsimp only); (first | exact ⟨⟨(HGk.out.row.drew.cell _).trans hcR, (HGk.out.row.drew.cell _).trans hcD, (HGk.out.row.drew.cell _).trans hcV⟩, (HRX.out.drew.cell _).trans hxR, (HRX.out.drew.cell _).trans hxD, (HRX.out.drew.cell _).trans hxV⟩ | exact ⟨⟨(row.cell _).trans hcR, (row.cell _).trans hcD, (row.cell _).trans hcV⟩, (rx.cell _).trans hxR, (rx.cell _).trans hxD, (rx.cell _).trans hxV⟩)
            try dsimp only at hHeld
            clear hK K
            try simp only [Act.put, List.setIfInBounds_toArray, List.set_cons_zero, List.set_cons_succ]
            refine wpAnyF_ready [23] (by kernel_rfl) (by simp) ?_
            refine AllReadyF.cons 23 (o := ⟨some 84, .call { callee := .builtin .append, args := #[.tmp 78, .tmp 83], argTypes := #[22, 22] }, 22, "law.go:153", #[⟨17, .data⟩, ⟨22, .data⟩, ⟨12, .chain⟩], none⟩) rfl (fun K hK => ?g4ro34) ?g4rm34
            case g4rm34 => exact AllReadyF.nil
            (have hk1 := own1'' how hkm (mixC_at A D k)); (refine step_append (B := w5.heap.size) rfl _ _ _ _ rfl ii (.int .i64 0) 8 Try.underlying22 hii hz0i hz1i hz2i rfl rfl hk1 _ rfl _ _ (o1.sl.src (P := Try.prog) (tx := 22) Try.underlying22 (celD_one _)) (by simp only [maxLen]; omega) (by omega) hBW ?_; intro a23 cap23 W23 ho23 hc23 hn23); (have hno : ∀ g, wi.heap.size ≤ g → g < w8.heap.size → ¬ (blk (aa1 (k * 3 + 1)) g ∧ w5.heap.size ≤ g ∧ 0 < cc1 (k * 3 + 1)) := fun g h1 h2 h => by rcases HAk.out _ _ (by omega) h.1 with h3 | h3 <;> omega); (replace row := row.chg hc23 (fun h => by have := h.2.1; omega)); (replace rx := rx.chg hc23 (hno bx hbx hxl)); (replace o2 := o2.chg hc23 (fun g hg => hno g (HXL2.out g hg).1 (HXL2.out g hg).2)); (replace hch := hch.trans hc23 (fun g hg h => by rcases HAk.out _ _ (by omega) h.1 with h3 | h3 <;> omega)); (replace hHB := Chg.bt hHB hc23 (fun g hg h => by have := h.2.1; omega)); (have hN23 : ∀ g, blk a23 g → g < wi.heap.size ∨ w8.heap.size ≤ g := fun g hg => by rcases hn23 g hg with h1 | h1; exact HAk.out _ _ (by omega) h1; exact .inr (Nat.le_trans hzW h1)); (replace hBW := Nat.le_trans hBW hc23.size); (replace hzW := Nat.le_trans hzW hc23.size); (replace how := OW.push1 how hkm (by omega) ho23 hc23 hn23); clear ho23 hc23 hn23 hno o0 hk1
            refine hK.out _ _ ?g4rs34 (fun hHeld => ?g4rt34)
            case g4rs34 => (try dsimp only); (first | exact ⟨⟨(HGk.out.row.drew.cell _).trans hcR, (HGk.out.row.drew.cell _).trans hcD, (HGk.out.row.drew.cell _).trans hcV⟩, (HRX.out.drew.cell _).trans hxR, (HRX.out.drew.cell _).trans hxD, (HRX.out.drew.cell _).trans hxV⟩ | exact ⟨⟨(row.cell _).trans hcR, (row.cell _).trans hcD, (row.cell _).trans hcV⟩, (rx.cell _).trans hxR, (rx.cell _).trans hxD, (rx.cell _).trans hxV⟩)
            try dsimp only at hHeld
            clear hK K
            try simp only [Act.put, List.setIfInBounds_toArray, List.set_cons_zero, List.set_cons_succ]
            refine wpAnyF_ready [34] (by kernel_rfl) (by simp) ?_
            refine AllReadyF.cons 34 (o := ⟨some 95, .call { callee := .builtin .append, args := #[.tmp 89, .tmp 94], argTypes := #[44, 44] }, 44, "law.go:153", #[⟨28, .data⟩, ⟨33, .data⟩, ⟨23, .chain⟩], none⟩) rfl (fun K hK => ?g4ro35) ?g4rm35
            case g4rm35 => exact AllReadyF.nil
            (refine step_nothing rfl _ _ _ _ rfl iv Try.underlying44 hiv hz1v rfl (own2'' how hkm (mixC_at A D k)).le _ rfl ((by have h := o2.sl; rw [HV0.out] at h; exact h : Sl _ W23 2 (ax (k * 3 + 2)) 0 (cx (k * 3 + 2)) []).src (P := Try.prog) (tx := 44) Try.underlying44 (fun u h => by cases h)) ?_); (have hN34 : ∀ g, blk (aa1 (k * 3 + 2)) g → g < wi.heap.size ∨ w8.heap.size ≤ g := fun g hg => HAk.out _ _ (by omega) hg); (replace how := OW.same2 how)
            refine hK.out _ _ ?g4rs35 (fun hHeld => ?g4rt35)
            case g4rs35 => (try dsimp only); (first | exact ⟨⟨(HGk.out.row.drew.cell _).trans hcR, (HGk.out.row.drew.cell _).trans hcD, (HGk.out.row.drew.cell _).trans hcV⟩, (HRX.out.drew.cell _).trans hxR, (HRX.out.drew.cell _).trans hxD, (HRX.out.drew.cell _).trans hxV⟩ | exact ⟨⟨(row.cell _).trans hcR, (row.cell _).trans hcD, (row.cell _).trans hcV⟩, (rx.cell _).trans hxR, (rx.cell _).trans hxD, (rx.cell _).trans hxV⟩)
            try dsimp only at hHeld
            clear hK K
            try simp only [Act.put, List.setIfInBounds_toArray, List.set_cons_zero, List.set_cons_succ]
            refine wpAnyF_take 35 (oi := ⟨some 96, .build 46 #[(0, .tmp 73), (1, .tmp 84), (2, .tmp 95)], 46, "law.go:153", #[⟨12, .data⟩, ⟨23, .data⟩, ⟨34, .data⟩], none⟩) (v := ?g4rv36) rfl (by kernel_rfl) (fun _ _ _ h => h) (by assumption) (by rfl) ?g4ry36 ?g4rr36
            case g4ry36 => intro w hSw; obtain ⟨⟨s0, s1, s2⟩, s3, s4, s5⟩ := hSw; go_simp; try with_reducible rfl
            try simp only [Act.put, List.setIfInBounds_toArray, List.set_cons_zero, List.set_cons_succ]
            refine wpAnyF_ready [36] (by kernel_rfl) (by simp) ?_
            refine AllReadyF.last 36 (o := ⟨some 97, .indexAddr 34 (.tmp 61) (.tmp 62), 0, "law.go:153", #[⟨0, .data⟩, ⟨1, .data⟩, ⟨0, .phase⟩, ⟨1, .phase⟩, ⟨2, .phase⟩, ⟨3, .phase⟩, ⟨4, .phase⟩, ⟨5, .phase⟩, ⟨6, .phase⟩, ⟨7, .phase⟩, ⟨8, .phase⟩, ⟨9, .phase⟩, ⟨10, .phase⟩, ⟨11, .phase⟩, ⟨12, .phase⟩, ⟨13, .phase⟩, ⟨14, .phase⟩, ⟨15, .phase⟩, ⟨16, .phase⟩, ⟨17, .phase⟩, ⟨18, .phase⟩, ⟨19, .phase⟩, ⟨20, .phase⟩, ⟨21, .phase⟩, ⟨22, .phase⟩, ⟨23, .phase⟩, ⟨24, .phase⟩, ⟨25, .phase⟩, ⟨26, .phase⟩, ⟨27, .phase⟩, ⟨28, .phase⟩, ⟨29, .phase⟩, ⟨30, .phase⟩, ⟨31, .phase⟩, ⟨32, .phase⟩, ⟨33, .phase⟩, ⟨34, .phase⟩, ⟨35, .phase⟩], none⟩) rfl (by kernel_rfl) (fun K hK => ?g4ro37) ?g4rm37
            case g4rm37 => exact AllReadyF.nil
            go_simp
            refine hK.out _ _ ?_
            clear hK K
            try simp only [Act.put, List.setIfInBounds_toArray, List.set_cons_zero, List.set_cons_succ]
            refine wpAnyF_ready [37] (by kernel_rfl) (by simp) ?_
            refine AllReadyF.last 37 (o := ⟨none, .store 46 (.tmp 97) (.tmp 96), 0, "law.go:153", #[⟨36, .data⟩, ⟨35, .data⟩, ⟨34, .chain⟩, ⟨0, .phase⟩, ⟨1, .phase⟩, ⟨2, .phase⟩, ⟨3, .phase⟩, ⟨4, .phase⟩, ⟨5, .phase⟩, ⟨6, .phase⟩, ⟨7, .phase⟩, ⟨8, .phase⟩, ⟨9, .phase⟩, ⟨10, .phase⟩, ⟨11, .phase⟩, ⟨12, .phase⟩, ⟨13, .phase⟩, ⟨14, .phase⟩, ⟨15, .phase⟩, ⟨16, .phase⟩, ⟨17, .phase⟩, ⟨18, .phase⟩, ⟨19, .phase⟩, ⟨20, .phase⟩, ⟨21, .phase⟩, ⟨22, .phase⟩, ⟨23, .phase⟩, ⟨24, .phase⟩, ⟨25, .phase⟩, ⟨26, .phase⟩, ⟨27, .phase⟩, ⟨28, .phase⟩, ⟨29, .phase⟩, ⟨30, .phase⟩, ⟨31, .phase⟩, ⟨32, .phase⟩, ⟨33, .phase⟩, ⟨34, .phase⟩, ⟨35, .phase⟩], none⟩) rfl (by kernel_rfl) (fun K hK => ?g4ro38) ?g4rm38
            case g4rm38 => exact AllReadyF.nil
            (obtain ⟨⟨y0, y1, y2⟩, _⟩ := hHeld); (have qf := row.frozen); (have ql := row.lt); go_simp
            refine hK.out _ _ ?_
            clear hK K
            try simp only [Act.put, List.setIfInBounds_toArray, List.set_cons_zero, List.set_cons_succ]
            refine wpAnyF_done (by kernel_rfl) ?_
            have hfin := CT.fin (L := A k ++ D k) hkm row HGk.out.size HH0.out HGk.out.lt (by simpa only [celR_app, celD_app, celV_app, HV0.out, List.append_nil, mixC_at, vcs_app, List.length_append] using how)
            simp only [celV_app, HV0.out, List.append_nil, mixC_at, List.length_append] at hfin
            have hch2 := chg3 hch (b := bg) (.inr (by omega)) (k * 3) (k * 3 + 1) (k * 3 + 2) (.slice a12 ((A k).length + (D k).length) cap12) (.slice a23 ((A k).length + (D k).length) cap23) (.slice (aa1 (k * 3 + 2)) (celV (A k)).length (cc1 (k * 3 + 2)))
            have hHB2 := ((hHB.setCell (p := ⟨bg, k * 3, none⟩) hb45 (.slice a12 ((A k).length + (D k).length) cap12)).setCell (p := ⟨bg, k * 3 + 1, none⟩) hb45 (.slice a23 ((A k).length + (D k).length) cap23)).setCell (p := ⟨bg, k * 3 + 2, none⟩) hb45 (.slice (aa1 (k * 3 + 2)) (celV (A k)).length (cc1 (k * 3 + 2)))
            have HF := Lib.hid (hfin.congr14 (fun j _ => mixC_upd A D k j)); have HC2 := Lib.hid hch2; have HHB2 := Lib.hid hHB2
            have HA2 : Hid (∀ j g, j < m * 3 → blk (upd (upd (upd aa1 (k * 3) a12) (k * 3 + 1) a23) (k * 3 + 2) (aa1 (k * 3 + 2)) j) g → g < wi.heap.size ∨ w8.heap.size ≤ g) := Lib.hid (fun j g hj hg => by
              by_cases h2 : j = k * 3 + 2
              · subst h2; rw [upd_self] at hg; exact hN34 g hg
              · rw [upd_ne _ _ h2] at hg
                by_cases h1 : j = k * 3 + 1
                · subst h1; rw [upd_self] at hg; exact hN23 g hg
                · rw [upd_ne _ _ h1] at hg
                  by_cases h0 : j = k * 3
                  · subst h0; rw [upd_self] at hg; exact hN12 g hg
                  · rw [upd_ne _ _ h0] at hg; exact HAk.out j g hj hg)
            clear row rx how hch hfin hch2 hHB hHB2 o1 o2 qf ql y0 y1 y2 hcR hcD hcV hxR hxD hxV hN12 hN23 hN34
            go_wp2_with fail
            go_roundw
            case rel => exact ⟨k + 1, _, _, _, by go_num, by omega, HF, HA2, HC2, HHB2⟩
            case measure => simp [intOf]; omega
          · have hv1 : 0 < (celV (D k)).length := by omega
            clear hv
            refine wp_region_F (fun w' => (w'.cell? ⟨bg, k * 3, none⟩ = some (.slice (aa1 (k * 3)) (A k).length (cc1 (k * 3))) ∧ w'.cell? ⟨bg, k * 3 + 1, none⟩ = some (.slice (aa1 (k * 3 + 1)) (A k).length (cc1 (k * 3 + 1))) ∧ w'.cell? ⟨bg, k * 3 + 2, none⟩ = some (.slice (aa1 (k * 3 + 2)) (celV (A k)).length (cc1 (k * 3 + 2)))) ∧ w'.cell? ⟨bx, k * 3, none⟩ = some (.slice (ax (k * 3)) (D k).length (cx (k * 3))) ∧ w'.cell? ⟨bx, k * 3 + 1, none⟩ = some (.slice (ax (k * 3 + 1)) (D k).length (cx (k * 3 + 1))) ∧ w'.cell? ⟨bx, k * 3 + 2, none⟩ = some (.slice (ax (k * 3 + 2)) (celV (D k)).length (cx (k * 3 + 2)))) [36, 37] (by kernel_rfl) ?g5rgS (fun hHeld => ?g5rgR)
            case g5rgS => (try dsimp only); (first | exact ⟨⟨(HGk.out.row.drew.cell _).trans hcR, (HGk.out.row.drew.cell _).trans hcD, (HGk.out.row.drew.cell _).trans hcV⟩, (HRX.out.drew.cell _).trans hxR, (HRX.out.drew.cell _).trans hxD, (HRX.out.drew.cell _).trans hxV⟩ | exact ⟨⟨(row.cell _).trans hcR, (row.cell _).trans hcD, (row.cell _).trans hcV⟩, (rx.cell _).trans hxR, (rx.cell _).trans hxD, (rx.cell _).trans hxV⟩)
            try dsimp only at hHeld
            obtain ⟨W, hW⟩ : ∃ W, W = wr.drew := ⟨_, rfl⟩; rw [← hW] at hHeld ⊢; (have row := Rw.ren hW HGk.out.row.drew); (have how : OW w5.heap.size W (m * 3) tyC szC aa1 (nC (mixC A D k)) cc1 (xC (mixC A D k)) := by rw [hW]; exact HGk.out.ow.below (b0 wr).drew); (have rx := Rw.ren hW HRX.out.drew); (have o0 : Own Bx W 3 1 (ax (k * 3)) (D k).length (cx (k * 3)) (celR (D k)) := by rw [hW]; exact HXO0.out.drew); (have o1 : Own Bx W 3 1 (ax (k * 3 + 1)) (D k).length (cx (k * 3 + 1)) (celD (D k)) := by rw [hW]; exact HXO1.out.drew); (have o2 : Own Bx W 54 2 (ax (k * 3 + 2)) (celV (D k)).length (cx (k * 3 + 2)) (vcs (celV (D k))) := by rw [hW]; exact HXO2.out.drew); (have hch : Chg (fun b => b < wi.heap.size) w8 W := by rw [hW]; exact HCk.out.drew); (have hHB : Below w4.heap.size w4 W := by rw [hW]; exact HBk.out.drew); (have hBW : w5.heap.size ≤ W.heap.size := by rw [hW]; exact HW5k.out); (have hzW : w8.heap.size ≤ W.heap.size := hch.size); clear hW
            refine wpAnyF_take 0 (oi := ⟨some 61, .move (.tmp 9), 34, "law.go:153", #[], none⟩) (v := ?g5rv1) rfl (by kernel_rfl) (fun _ _ _ h => h) (by assumption) (by rfl) ?g5ry1 ?g5rr1
            case g5ry1 => intro w hSw; obtain ⟨⟨s0, s1, s2⟩, s3, s4, s5⟩ := hSw; go_simp; try with_reducible rfl
            try simp only [Act.put, List.setIfInBounds_toArray, List.set_cons_zero, List.set_cons_succ]
            refine wpAnyF_take 1 (oi := ⟨some 62, .move (.tmp 13), 3, "law.go:153", #[], none⟩) (v := ?g5rv2) rfl (by kernel_rfl) (fun _ _ _ h => h) (by assumption) (by rfl) ?g5ry2 ?g5rr2
            case g5ry2 => intro w hSw; obtain ⟨⟨s0, s1, s2⟩, s3, s4, s5⟩ := hSw; go_simp; try with_reducible rfl
            try simp only [Act.put, List.setIfInBounds_toArray, List.set_cons_zero, List.set_cons_succ]
            refine wpAnyF_take 2 (oi := ⟨some 63, .move (.tmp 9), 34, "law.go:153", #[], none⟩) (v := ?g5rv3) rfl (by kernel_rfl) (fun _ _ _ h => h) (by assumption) (by rfl) ?g5ry3 ?g5rr3
            case g5ry3 => intro w hSw; obtain ⟨⟨s0, s1, s2⟩, s3, s4, s5⟩ := hSw; go_simp; try with_reducible rfl
            try simp only [Act.put, List.setIfInBounds_toArray, List.set_cons_zero, List.set_cons_succ]
            refine wpAnyF_take 3 (oi := ⟨some 64, .move (.tmp 13), 3, "law.go:153", #[], none⟩) (v := ?g5rv4) rfl (by kernel_rfl) (fun _ _ _ h => h) (by assumption) (by rfl) ?g5ry4 ?g5rr4
            case g5ry4 => intro w hSw; obtain ⟨⟨s0, s1, s2⟩, s3, s4, s5⟩ := hSw; go_simp; try with_reducible rfl
            try simp only [Act.put, List.setIfInBounds_toArray, List.set_cons_zero, List.set_cons_succ]
            refine wpAnyF_take 4 (oi := ⟨some 65, .indexAddr 34 (.tmp 63) (.tmp 64), 0, "law.go:153", #[⟨2, .data⟩, ⟨3, .data⟩], none⟩) (v := ?g5rv5) rfl (by kernel_rfl) (fun _ _ _ h => h) (by assumption) (by rfl) ?g5ry5 ?g5rr5
            case g5ry5 => intro w hSw; obtain ⟨⟨s0, s1, s2⟩, s3, s4, s5⟩ := hSw; go_simp; try with_reducible rfl
            try simp only [Act.put, List.setIfInBounds_toArray, List.set_cons_zero, List.set_cons_succ]
            refine wpAnyF_take 5 (oi := ⟨some 66, .fieldAddr 46 (.tmp 65) 0, 0, "law.go:153", #[⟨4, .data⟩], none⟩) (v := ?g5rv6) rfl (by kernel_rfl) (fun _ _ _ h => h) (by assumption) (by rfl) ?g5ry6 ?g5rr6
            case g5ry6 => intro w hSw; obtain ⟨⟨s0, s1, s2⟩, s3, s4, s5⟩ := hSw; go_simp; try with_reducible rfl
            try simp only [Act.put, List.setIfInBounds_toArray, List.set_cons_zero, List.set_cons_succ]
            refine wpAnyF_take 6 (oi := ⟨some 67, .load 22 (.tmp 66), 22, "law.go:153", #[⟨5, .data⟩], none⟩) (v := ?g5rv7) rfl (by kernel_rfl) (fun _ _ _ h => h) (by assumption) (by rfl) ?g5ry7 ?g5rr7
            case g5ry7 => intro w hSw; obtain ⟨⟨s0, s1, s2⟩, s3, s4, s5⟩ := hSw; go_simp; try with_reducible rfl
            try simp only [Act.put, List.setIfInBounds_toArray, List.set_cons_zero, List.set_cons_succ]
            refine wpAnyF_take 7 (oi := ⟨some 68, .move (.tmp 11), 34, "law.go:153", #[], none⟩) (v := ?g5rv8) rfl (by kernel_rfl) (fun _ _ _ h => h) (by assumption) (by rfl) ?g5ry8 ?g5rr8
            case g5ry8 => intro w hSw; obtain ⟨⟨s0, s1, s2⟩, s3, s4, s5⟩ := hSw; go_simp; try with_reducible rfl
            try simp only [Act.put, List.setIfInBounds_toArray, List.set_cons_zero, List.set_cons_succ]
            refine wpAnyF_take 8 (oi := ⟨some 69, .move (.tmp 13), 3, "law.go:153", #[], none⟩) (v := ?g5rv9) rfl (by kernel_rfl) (fun _ _ _ h => h) (by assumption) (by rfl) ?g5ry9 ?g5rr9
            case g5ry9 => intro w hSw; obtain ⟨⟨s0, s1, s2⟩, s3, s4, s5⟩ := hSw; go_simp; try with_reducible rfl
            try simp only [Act.put, List.setIfInBounds_toArray, List.set_cons_zero, List.set_cons_succ]
            refine wpAnyF_take 9 (oi := ⟨some 70, .indexAddr 34 (.tmp 68) (.tmp 69), 0, "law.go:153", #[⟨7, .data⟩, ⟨8, .data⟩], none⟩) (v := ?g5rv10) rfl (by kernel_rfl) (fun _ _ _ h => h) (by assumption) (by rfl) ?g5ry10 ?g5rr10
            case g5ry10 => intro w hSw; obtain ⟨⟨s0, s1, s2⟩, s3, s4, s5⟩ := hSw; go_simp; try with_reducible rfl
            try simp only [Act.put, List.setIfInBounds_toArray, List.set_cons_zero, List.set_cons_succ]
            refine wpAnyF_take 10 (oi := ⟨some 71, .fieldAddr 46 (.tmp 70) 0, 0, "law.go:153", #[⟨9, .data⟩], none⟩) (v := ?g5rv11) rfl (by kernel_rfl) (fun _ _ _ h => h) (by assumption) (by rfl) ?g5ry11 ?g5rr11
            case g5ry11 => intro w hSw; obtain ⟨⟨s0, s1, s2⟩, s3, s4, s5⟩ := hSw; go_simp; try with_reducible rfl
            try simp only [Act.put, List.setIfInBounds_toArray, List.set_cons_zero, List.set_cons_succ]
            refine wpAnyF_take 11 (oi := ⟨some 72, .load 22 (.tmp 71), 22, "law.go:153", #[⟨10, .data⟩], none⟩) (v := ?g5rv12) rfl (by kernel_rfl) (fun _ _ _ h => h) (by assumption) (by rfl) ?g5ry12 ?g5rr12
            case g5ry12 => intro w hSw; obtain ⟨⟨s0, s1, s2⟩, s3, s4, s5⟩ := hSw; go_simp; try with_reducible rfl
            try simp only [Act.put, List.setIfInBounds_toArray, List.set_cons_zero, List.set_cons_succ]
            refine wpAnyF_take 13 (oi := ⟨some 74, .move (.tmp 9), 34, "law.go:153", #[], none⟩) (v := ?g5rv13) rfl (by kernel_rfl) (fun _ _ _ h => h) (by assumption) (by rfl) ?g5ry13 ?g5rr13
            case g5ry13 => intro w hSw; obtain ⟨⟨s0, s1, s2⟩, s3, s4, s5⟩ := hSw; go_simp; try with_reducible rfl
            try simp only [Act.put, List.setIfInBounds_toArray, List.set_cons_zero, List.set_cons_succ]
            refine wpAnyF_take 14 (oi := ⟨some 75, .move (.tmp 13), 3, "law.go:153", #[], none⟩) (v := ?g5rv14) rfl (by kernel_rfl) (fun _ _ _ h => h) (by assumption) (by rfl) ?g5ry14 ?g5rr14
            case g5ry14 => intro w hSw; obtain ⟨⟨s0, s1, s2⟩, s3, s4, s5⟩ := hSw; go_simp; try with_reducible rfl
            try simp only [Act.put, List.setIfInBounds_toArray, List.set_cons_zero, List.set_cons_succ]
            refine wpAnyF_take 15 (oi := ⟨some 76, .indexAddr 34 (.tmp 74) (.tmp 75), 0, "law.go:153", #[⟨13, .data⟩, ⟨14, .data⟩], none⟩) (v := ?g5rv15) rfl (by kernel_rfl) (fun _ _ _ h => h) (by assumption) (by rfl) ?g5ry15 ?g5rr15
            case g5ry15 => intro w hSw; obtain ⟨⟨s0, s1, s2⟩, s3, s4, s5⟩ := hSw; go_simp; try with_reducible rfl
            try simp only [Act.put, List.setIfInBounds_toArray, List.set_cons_zero, List.set_cons_succ]
            refine wpAnyF_take 16 (oi := ⟨some 77, .fieldAddr 46 (.tmp 76) 1, 0, "law.go:153", #[⟨15, .data⟩], none⟩) (v := ?g5rv16) rfl (by kernel_rfl) (fun _ _ _ h => h) (by assumption) (by rfl) ?g5ry16 ?g5rr16
            case g5ry16 => intro w hSw; obtain ⟨⟨s0, s1, s2⟩, s3, s4, s5⟩ := hSw; go_simp; try with_reducible rfl
            try simp only [Act.put, List.setIfInBounds_toArray, List.set_cons_zero, List.set_cons_succ]
            refine wpAnyF_take 17 (oi := ⟨some 78, .load 22 (.tmp 77), 22, "law.go:153", #[⟨16, .data⟩], none⟩) (v := ?g5rv17) rfl (by kernel_rfl) (fun _ _ _ h => h) (by assumption) (by rfl) ?g5ry17 ?g5rr17
            case g5ry17 => intro w hSw; obtain ⟨⟨s0, s1, s2⟩, s3, s4, s5⟩ := hSw; go_simp; try with_reducible rfl
            try simp only [Act.put, List.setIfInBounds_toArray, List.set_cons_zero, List.set_cons_succ]
            refine wpAnyF_take 18 (oi := ⟨some 79, .move (.tmp 11), 34, "law.go:153", #[], none⟩) (v := ?g5rv18) rfl (by kernel_rfl) (fun _ _ _ h => h) (by assumption) (by rfl) ?g5ry18 ?g5rr18
            case g5ry18 => intro w hSw; obtain ⟨⟨s0, s1, s2⟩, s3, s4, s5⟩ := hSw; go_simp; try with_reducible rfl
            try simp only [Act.put, List.setIfInBounds_toArray, List.set_cons_zero, List.set_cons_succ]
            refine wpAnyF_take 19 (oi := ⟨some 80, .move (.tmp 13), 3, "law.go:153", #[], none⟩) (v := ?g5rv19) rfl (by kernel_rfl) (fun _ _ _ h => h) (by assumption) (by rfl) ?g5ry19 ?g5rr19
            case g5ry19 => intro w hSw; obtain ⟨⟨s0, s1, s2⟩, s3, s4, s5⟩ := hSw; go_simp; try with_reducible rfl
            try simp only [Act.put, List.setIfInBounds_toArray, List.set_cons_zero, List.set_cons_succ]
            refine wpAnyF_take 20 (oi := ⟨some 81, .indexAddr 34 (.tmp 79) (.tmp 80), 0, "law.go:153", #[⟨18, .data⟩, ⟨19, .data⟩], none⟩) (v := ?g5rv20) rfl (by kernel_rfl) (fun _ _ _ h => h) (by assumption) (by rfl) ?g5ry20 ?g5rr20
            case g5ry20 => intro w hSw; obtain ⟨⟨s0, s1, s2⟩, s3, s4, s5⟩ := hSw; go_simp; try with_reducible rfl
            try simp only [Act.put, List.setIfInBounds_toArray, List.set_cons_zero, List.set_cons_succ]
            refine wpAnyF_take 21 (oi := ⟨some 82, .fieldAddr 46 (.tmp 81) 1, 0, "law.go:153", #[⟨20, .data⟩], none⟩) (v := ?g5rv21) rfl (by kernel_rfl) (fun _ _ _ h => h) (by assumption) (by rfl) ?g5ry21 ?g5rr21
            case g5ry21 => intro w hSw; obtain ⟨⟨s0, s1, s2⟩, s3, s4, s5⟩ := hSw; go_simp; try with_reducible rfl
            try simp only [Act.put, List.setIfInBounds_toArray, List.set_cons_zero, List.set_cons_succ]
            refine wpAnyF_take 22 (oi := ⟨some 83, .load 22 (.tmp 82), 22, "law.go:153", #[⟨21, .data⟩], none⟩) (v := ?g5rv22) rfl (by kernel_rfl) (fun _ _ _ h => h) (by assumption) (by rfl) ?g5ry22 ?g5rr22
            case g5ry22 => intro w hSw; obtain ⟨⟨s0, s1, s2⟩, s3, s4, s5⟩ := hSw; go_simp; try with_reducible rfl
            try simp only [Act.put, List.setIfInBounds_toArray, List.set_cons_zero, List.set_cons_succ]
            refine wpAnyF_take 24 (oi := ⟨some 85, .move (.tmp 9), 34, "law.go:153", #[], none⟩) (v := ?g5rv23) rfl (by kernel_rfl) (fun _ _ _ h => h) (by assumption) (by rfl) ?g5ry23 ?g5rr23
            case g5ry23 => intro w hSw; obtain ⟨⟨s0, s1, s2⟩, s3, s4, s5⟩ := hSw; go_simp; try with_reducible rfl
            try simp only [Act.put, List.setIfInBounds_toArray, List.set_cons_zero, List.set_cons_succ]
            refine wpAnyF_take 25 (oi := ⟨some 86, .move (.tmp 13), 3, "law.go:153", #[], none⟩) (v := ?g5rv24) rfl (by kernel_rfl) (fun _ _ _ h => h) (by assumption) (by rfl) ?g5ry24 ?g5rr24
            case g5ry24 => intro w hSw; obtain ⟨⟨s0, s1, s2⟩, s3, s4, s5⟩ := hSw; go_simp; try with_reducible rfl
            try simp only [Act.put, List.setIfInBounds_toArray, List.set_cons_zero, List.set_cons_succ]
            refine wpAnyF_take 26 (oi := ⟨some 87, .indexAddr 34 (.tmp 85) (.tmp 86), 0, "law.go:153", #[⟨24, .data⟩, ⟨25, .data⟩], none⟩) (v := ?g5rv25) rfl (by kernel_rfl) (fun _ _ _ h => h) (by assumption) (by rfl) ?g5ry25 ?g5rr25
            case g5ry25 => intro w hSw; obtain ⟨⟨s0, s1, s2⟩, s3, s4, s5⟩ := hSw; go_simp; try with_reducible rfl
            try simp only [Act.put, List.setIfInBounds_toArray, List.set_cons_zero, List.set_cons_succ]
            refine wpAnyF_take 27 (oi := ⟨some 88, .fieldAddr 46 (.tmp 87) 2, 0, "law.go:153", #[⟨26, .data⟩], none⟩) (v := ?g5rv26) rfl (by kernel_rfl) (fun _ _ _ h => h) (by assumption) (by rfl) ?g5ry26 ?g5rr26
            case g5ry26 => intro w hSw; obtain ⟨⟨s0, s1, s2⟩, s3, s4, s5⟩ := hSw; go_simp; try with_reducible rfl
            try simp only [Act.put, List.setIfInBounds_toArray, List.set_cons_zero, List.set_cons_succ]
            refine wpAnyF_take 28 (oi := ⟨some 89, .load 44 (.tmp 88), 44, "law.go:153", #[⟨27, .data⟩], none⟩) (v := ?g5rv27) rfl (by kernel_rfl) (fun _ _ _ h => h) (by assumption) (by rfl) ?g5ry27 ?g5rr27
            case g5ry27 => intro w hSw; obtain ⟨⟨s0, s1, s2⟩, s3, s4, s5⟩ := hSw; go_simp; try with_reducible rfl
            try simp only [Act.put, List.setIfInBounds_toArray, List.set_cons_zero, List.set_cons_succ]
            refine wpAnyF_take 29 (oi := ⟨some 90, .move (.tmp 11), 34, "law.go:153", #[], none⟩) (v := ?g5rv28) rfl (by kernel_rfl) (fun _ _ _ h => h) (by assumption) (by rfl) ?g5ry28 ?g5rr28
            case g5ry28 => intro w hSw; obtain ⟨⟨s0, s1, s2⟩, s3, s4, s5⟩ := hSw; go_simp; try with_reducible rfl
            try simp only [Act.put, List.setIfInBounds_toArray, List.set_cons_zero, List.set_cons_succ]
            refine wpAnyF_take 30 (oi := ⟨some 91, .move (.tmp 13), 3, "law.go:153", #[], none⟩) (v := ?g5rv29) rfl (by kernel_rfl) (fun _ _ _ h => h) (by assumption) (by rfl) ?g5ry29 ?g5rr29
            case g5ry29 => intro w hSw; obtain ⟨⟨s0, s1, s2⟩, s3, s4, s5⟩ := hSw; go_simp; try with_reducible rfl
            try simp only [Act.put, List.setIfInBounds_toArray, List.set_cons_zero, List.set_cons_succ]
            refine wpAnyF_take 31 (oi := ⟨some 92, .indexAddr 34 (.tmp 90) (.tmp 91), 0, "law.go:153", #[⟨29, .data⟩, ⟨30, .data⟩], none⟩) (v := ?g5rv30) rfl (by kernel_rfl) (fun _ _ _ h => h) (by assumption) (by rfl) ?g5ry30 ?g5rr30
            case g5ry30 => intro w hSw; obtain ⟨⟨s0, s1, s2⟩, s3, s4, s5⟩ := hSw; go_simp; try with_reducible rfl
            try simp only [Act.put, List.setIfInBounds_toArray, List.set_cons_zero, List.set_cons_succ]
            refine wpAnyF_take 32 (oi := ⟨some 93, .fieldAddr 46 (.tmp 92) 2, 0, "law.go:153", #[⟨31, .data⟩], none⟩) (v := ?g5rv31) rfl (by kernel_rfl) (fun _ _ _ h => h) (by assumption) (by rfl) ?g5ry31 ?g5rr31
            case g5ry31 => intro w hSw; obtain ⟨⟨s0, s1, s2⟩, s3, s4, s5⟩ := hSw; go_simp; try with_reducible rfl
            try simp only [Act.put, List.setIfInBounds_toArray, List.set_cons_zero, List.set_cons_succ]
            refine wpAnyF_take 33 (oi := ⟨some 94, .load 44 (.tmp 93), 44, "law.go:153", #[⟨32, .data⟩], none⟩) (v := ?g5rv32) rfl (by kernel_rfl) (fun _ _ _ h => h) (by assumption) (by rfl) ?g5ry32 ?g5rr32
            case g5ry32 => intro w hSw; obtain ⟨⟨s0, s1, s2⟩, s3, s4, s5⟩ := hSw; go_simp; try with_reducible rfl
            try simp only [Act.put, List.setIfInBounds_toArray, List.set_cons_zero, List.set_cons_succ]
            refine wpAnyF_ready [12] (by kernel_rfl) (by simp) ?_
            refine AllReadyF.cons 12 (o := ⟨some 73, .call { callee := .builtin .append, args := #[.tmp 67, .tmp 72], argTypes := #[22, 22] }, 22, "law.go:153", #[⟨6, .data⟩, ⟨11, .data⟩], none⟩) rfl (fun K hK => ?g5ro33) ?g5rm33
            case g5rm33 => exact AllReadyF.nil
            (have hk0 := own0' how hkm (mixC_at A D k)); (refine step_append (B := w5.heap.size) rfl _ _ _ _ rfl ii (.int .i64 0) 8 Try.underlying22 hii hz0i hz1i hz2i rfl rfl hk0 _ rfl _ _ (o0.sl.src (P := Try.prog) (tx := 22) Try.underlying22 (celR_one _)) (by simp only [maxLen]; omega) (by omega) hBW ?_; intro a12 cap12 W12 ho12 hc12 hn12); (have hno : ∀ g, wi.heap.size ≤ g → g < w8.heap.size → ¬ (blk (aa1 (k * 3)) g ∧ w5.heap.size ≤ g ∧ 0 < cc1 (k * 3)) := fun g h1 h2 h => by rcases HAk.out _ _ (by omega) h.1 with h3 | h3 <;> omega); (replace row := row.chg hc12 (fun h => by have := h.2.1; omega)); (replace rx := rx.chg hc12 (hno bx hbx hxl)); (replace o0 := o0.chg hc12 (fun g hg => hno g (HXL0.out g hg).1 (HXL0.out g hg).2)); (replace o1 := o1.chg hc12 (fun g hg => hno g (HXL1.out g hg).1 (HXL1.out g hg).2)); (replace o2 := o2.chg hc12 (fun g hg => hno g (HXL2.out g hg).1 (HXL2.out g hg).2)); (replace hch := hch.trans hc12 (fun g hg h => by rcases HAk.out _ _ (by omega) h.1 with h3 | h3 <;> omega)); (replace hHB := Chg.bt hHB hc12 (fun g hg h => by have := h.2.1; omega)); (have hN12 : ∀ g, blk a12 g → g < wi.heap.size ∨ w8.heap.size ≤ g := fun g hg => by rcases hn12 g hg with h1 | h1; exact HAk.out _ _ (by omega) h1; exact .inr (Nat.le_trans hzW h1)); (replace hBW := Nat.le_trans hBW hc12.size); (replace hzW := Nat.le_trans hzW hc12.size); (replace how := OW.push0 how hkm (by omega) ho12 hc12 hn12); clear ho12 hc12 hn12 hno hk0
            refine hK.out _ _ ?g5rs33 (fun hHeld => ?g5rt33)
            case g5rs33 => (try dsimp only); (first | exact ⟨⟨(HGk.out.row.drew.cell _).trans hcR, (HGk.out.row.drew.cell _).trans hcD, (HGk.out.row.drew.cell _).trans hcV⟩, (HRX.out.drew.cell _).trans hxR, (HRX.out.drew.cell _).trans hxD, (HRX.out.drew.cell _).trans hxV⟩ | exact ⟨⟨(row.cell _).trans hcR, (row.cell _).trans hcD, (row.cell _).trans hcV⟩, (rx.cell _).trans hxR, (rx.cell _).trans hxD, (rx.cell _).trans hxV⟩)
            try dsimp only at hHeld
            clear hK K
            try simp only [Act.put, List.setIfInBounds_toArray, List.set_cons_zero, List.set_cons_succ]
            refine wpAnyF_ready [23] (by kernel_rfl) (by simp) ?_
            refine AllReadyF.cons 23 (o := ⟨some 84, .call { callee := .builtin .append, args := #[.tmp 78, .tmp 83], argTypes := #[22, 22] }, 22, "law.go:153", #[⟨17, .data⟩, ⟨22, .data⟩, ⟨12, .chain⟩], none⟩) rfl (fun K hK => ?g5ro34) ?g5rm34
            case g5rm34 => exact AllReadyF.nil
            (have hk1 := own1'' how hkm (mixC_at A D k)); (refine step_append (B := w5.heap.size) rfl _ _ _ _ rfl ii (.int .i64 0) 8 Try.underlying22 hii hz0i hz1i hz2i rfl rfl hk1 _ rfl _ _ (o1.sl.src (P := Try.prog) (tx := 22) Try.underlying22 (celD_one _)) (by simp only [maxLen]; omega) (by omega) hBW ?_; intro a23 cap23 W23 ho23 hc23 hn23); (have hno : ∀ g, wi.heap.size ≤ g → g < w8.heap.size → ¬ (blk (aa1 (k * 3 + 1)) g ∧ w5.heap.size ≤ g ∧ 0 < cc1 (k * 3 + 1)) := fun g h1 h2 h => by rcases HAk.out _ _ (by omega) h.1 with h3 | h3 <;> omega); (replace row := row.chg hc23 (fun h => by have := h.2.1; omega)); (replace rx := rx.chg hc23 (hno bx hbx hxl)); (replace o2 := o2.chg hc23 (fun g hg => hno g (HXL2.out g hg).1 (HXL2.out g hg).2)); (replace hch := hch.trans hc23 (fun g hg h => by rcases HAk.out _ _ (by omega) h.1 with h3 | h3 <;> omega)); (replace hHB := Chg.bt hHB hc23 (fun g hg h => by have := h.2.1; omega)); (have hN23 : ∀ g, blk a23 g → g < wi.heap.size ∨ w8.heap.size ≤ g := fun g hg => by rcases hn23 g hg with h1 | h1; exact HAk.out _ _ (by omega) h1; exact .inr (Nat.le_trans hzW h1)); (replace hBW := Nat.le_trans hBW hc23.size); (replace hzW := Nat.le_trans hzW hc23.size); (replace how := OW.push1 how hkm (by omega) ho23 hc23 hn23); clear ho23 hc23 hn23 hno o0 hk1
            refine hK.out _ _ ?g5rs34 (fun hHeld => ?g5rt34)
            case g5rs34 => (try dsimp only); (first | exact ⟨⟨(HGk.out.row.drew.cell _).trans hcR, (HGk.out.row.drew.cell _).trans hcD, (HGk.out.row.drew.cell _).trans hcV⟩, (HRX.out.drew.cell _).trans hxR, (HRX.out.drew.cell _).trans hxD, (HRX.out.drew.cell _).trans hxV⟩ | exact ⟨⟨(row.cell _).trans hcR, (row.cell _).trans hcD, (row.cell _).trans hcV⟩, (rx.cell _).trans hxR, (rx.cell _).trans hxD, (rx.cell _).trans hxV⟩)
            try dsimp only at hHeld
            clear hK K
            try simp only [Act.put, List.setIfInBounds_toArray, List.set_cons_zero, List.set_cons_succ]
            refine wpAnyF_ready [34] (by kernel_rfl) (by simp) ?_
            refine AllReadyF.cons 34 (o := ⟨some 95, .call { callee := .builtin .append, args := #[.tmp 89, .tmp 94], argTypes := #[44, 44] }, 44, "law.go:153", #[⟨28, .data⟩, ⟨33, .data⟩, ⟨23, .chain⟩], none⟩) rfl (fun K hK => ?g5ro35) ?g5rm35
            case g5rm35 => exact AllReadyF.nil
            (have hk2 := own2'' how hkm (mixC_at A D k)); (refine step_append (B := w5.heap.size) rfl _ _ _ _ rfl iv (.agg #[.int .i64 0, .string ByteArray.empty]) 24 Try.underlying44 hiv hz0v hz1v hz2v rfl rfl hk2 _ rfl _ _ (o2.sl.src (P := Try.prog) (tx := 44) Try.underlying44 (vcs_one _)) (by simp only [maxLen]; omega) (by omega) hBW ?_; intro a34 cap34 W34 ho34 hc34 hn34); (have hno : ∀ g, wi.heap.size ≤ g → g < w8.heap.size → ¬ (blk (aa1 (k * 3 + 2)) g ∧ w5.heap.size ≤ g ∧ 0 < cc1 (k * 3 + 2)) := fun g h1 h2 h => by rcases HAk.out _ _ (by omega) h.1 with h3 | h3 <;> omega); (replace row := row.chg hc34 (fun h => by have := h.2.1; omega)); (replace rx := rx.chg hc34 (hno bx hbx hxl)); (replace hch := hch.trans hc34 (fun g hg h => by rcases HAk.out _ _ (by omega) h.1 with h3 | h3 <;> omega)); (replace hHB := Chg.bt hHB hc34 (fun g hg h => by have := h.2.1; omega)); (have hN34 : ∀ g, blk a34 g → g < wi.heap.size ∨ w8.heap.size ≤ g := fun g hg => by rcases hn34 g hg with h1 | h1; exact HAk.out _ _ (by omega) h1; exact .inr (Nat.le_trans hzW h1)); (replace hBW := Nat.le_trans hBW hc34.size); (replace hzW := Nat.le_trans hzW hc34.size); (replace how := OW.push2 how hkm (by omega) ho34 hc34 hn34); clear ho34 hc34 hn34 hno hk2
            refine hK.out _ _ ?g5rs35 (fun hHeld => ?g5rt35)
            case g5rs35 => (try dsimp only); (first | exact ⟨⟨(HGk.out.row.drew.cell _).trans hcR, (HGk.out.row.drew.cell _).trans hcD, (HGk.out.row.drew.cell _).trans hcV⟩, (HRX.out.drew.cell _).trans hxR, (HRX.out.drew.cell _).trans hxD, (HRX.out.drew.cell _).trans hxV⟩ | exact ⟨⟨(row.cell _).trans hcR, (row.cell _).trans hcD, (row.cell _).trans hcV⟩, (rx.cell _).trans hxR, (rx.cell _).trans hxD, (rx.cell _).trans hxV⟩)
            try dsimp only at hHeld
            clear hK K
            try simp only [Act.put, List.setIfInBounds_toArray, List.set_cons_zero, List.set_cons_succ]
            refine wpAnyF_take 35 (oi := ⟨some 96, .build 46 #[(0, .tmp 73), (1, .tmp 84), (2, .tmp 95)], 46, "law.go:153", #[⟨12, .data⟩, ⟨23, .data⟩, ⟨34, .data⟩], none⟩) (v := ?g5rv36) rfl (by kernel_rfl) (fun _ _ _ h => h) (by assumption) (by rfl) ?g5ry36 ?g5rr36
            case g5ry36 => intro w hSw; obtain ⟨⟨s0, s1, s2⟩, s3, s4, s5⟩ := hSw; go_simp; try with_reducible rfl
            try simp only [Act.put, List.setIfInBounds_toArray, List.set_cons_zero, List.set_cons_succ]
            refine wpAnyF_ready [36] (by kernel_rfl) (by simp) ?_
            refine AllReadyF.last 36 (o := ⟨some 97, .indexAddr 34 (.tmp 61) (.tmp 62), 0, "law.go:153", #[⟨0, .data⟩, ⟨1, .data⟩, ⟨0, .phase⟩, ⟨1, .phase⟩, ⟨2, .phase⟩, ⟨3, .phase⟩, ⟨4, .phase⟩, ⟨5, .phase⟩, ⟨6, .phase⟩, ⟨7, .phase⟩, ⟨8, .phase⟩, ⟨9, .phase⟩, ⟨10, .phase⟩, ⟨11, .phase⟩, ⟨12, .phase⟩, ⟨13, .phase⟩, ⟨14, .phase⟩, ⟨15, .phase⟩, ⟨16, .phase⟩, ⟨17, .phase⟩, ⟨18, .phase⟩, ⟨19, .phase⟩, ⟨20, .phase⟩, ⟨21, .phase⟩, ⟨22, .phase⟩, ⟨23, .phase⟩, ⟨24, .phase⟩, ⟨25, .phase⟩, ⟨26, .phase⟩, ⟨27, .phase⟩, ⟨28, .phase⟩, ⟨29, .phase⟩, ⟨30, .phase⟩, ⟨31, .phase⟩, ⟨32, .phase⟩, ⟨33, .phase⟩, ⟨34, .phase⟩, ⟨35, .phase⟩], none⟩) rfl (by kernel_rfl) (fun K hK => ?g5ro37) ?g5rm37
            case g5rm37 => exact AllReadyF.nil
            go_simp
            refine hK.out _ _ ?_
            clear hK K
            try simp only [Act.put, List.setIfInBounds_toArray, List.set_cons_zero, List.set_cons_succ]
            refine wpAnyF_ready [37] (by kernel_rfl) (by simp) ?_
            refine AllReadyF.last 37 (o := ⟨none, .store 46 (.tmp 97) (.tmp 96), 0, "law.go:153", #[⟨36, .data⟩, ⟨35, .data⟩, ⟨34, .chain⟩, ⟨0, .phase⟩, ⟨1, .phase⟩, ⟨2, .phase⟩, ⟨3, .phase⟩, ⟨4, .phase⟩, ⟨5, .phase⟩, ⟨6, .phase⟩, ⟨7, .phase⟩, ⟨8, .phase⟩, ⟨9, .phase⟩, ⟨10, .phase⟩, ⟨11, .phase⟩, ⟨12, .phase⟩, ⟨13, .phase⟩, ⟨14, .phase⟩, ⟨15, .phase⟩, ⟨16, .phase⟩, ⟨17, .phase⟩, ⟨18, .phase⟩, ⟨19, .phase⟩, ⟨20, .phase⟩, ⟨21, .phase⟩, ⟨22, .phase⟩, ⟨23, .phase⟩, ⟨24, .phase⟩, ⟨25, .phase⟩, ⟨26, .phase⟩, ⟨27, .phase⟩, ⟨28, .phase⟩, ⟨29, .phase⟩, ⟨30, .phase⟩, ⟨31, .phase⟩, ⟨32, .phase⟩, ⟨33, .phase⟩, ⟨34, .phase⟩, ⟨35, .phase⟩], none⟩) rfl (by kernel_rfl) (fun K hK => ?g5ro38) ?g5rm38
            case g5rm38 => exact AllReadyF.nil
            (obtain ⟨⟨y0, y1, y2⟩, _⟩ := hHeld); (have qf := row.frozen); (have ql := row.lt); go_simp
            refine hK.out _ _ ?_
            clear hK K
            try simp only [Act.put, List.setIfInBounds_toArray, List.set_cons_zero, List.set_cons_succ]
            refine wpAnyF_done (by kernel_rfl) ?_
            have hfin := CT.fin (L := A k ++ D k) hkm row HGk.out.size HH0.out HGk.out.lt (by simpa only [celR_app, celD_app, celV_app, vcs_app, List.length_append] using how)
            simp only [celV_app, List.length_append] at hfin
            have hch2 := chg3 hch (b := bg) (.inr (by omega)) (k * 3) (k * 3 + 1) (k * 3 + 2) (.slice a12 ((A k).length + (D k).length) cap12) (.slice a23 ((A k).length + (D k).length) cap23) (.slice a34 ((celV (A k)).length + (celV (D k)).length) cap34)
            have hHB2 := ((hHB.setCell (p := ⟨bg, k * 3, none⟩) hb45 (.slice a12 ((A k).length + (D k).length) cap12)).setCell (p := ⟨bg, k * 3 + 1, none⟩) hb45 (.slice a23 ((A k).length + (D k).length) cap23)).setCell (p := ⟨bg, k * 3 + 2, none⟩) hb45 (.slice a34 ((celV (A k)).length + (celV (D k)).length) cap34)
            have HF := Lib.hid (hfin.congr14 (fun j _ => mixC_upd A D k j)); have HC2 := Lib.hid hch2; have HHB2 := Lib.hid hHB2
            have HA2 : Hid (∀ j g, j < m * 3 → blk (upd (upd (upd aa1 (k * 3) a12) (k * 3 + 1) a23) (k * 3 + 2) a34 j) g → g < wi.heap.size ∨ w8.heap.size ≤ g) := Lib.hid (fun j g hj hg => by
              by_cases h2 : j = k * 3 + 2
              · subst h2; rw [upd_self] at hg; exact hN34 g hg
              · rw [upd_ne _ _ h2] at hg
                by_cases h1 : j = k * 3 + 1
                · subst h1; rw [upd_self] at hg; exact hN23 g hg
                · rw [upd_ne _ _ h1] at hg
                  by_cases h0 : j = k * 3
                  · subst h0; rw [upd_self] at hg; exact hN12 g hg
                  · rw [upd_ne _ _ h0] at hg; exact HAk.out j g hj hg)
            clear row rx how hch hfin hch2 hHB hHB2 o1 o2 qf ql y0 y1 y2 hcR hcD hcV hxR hxD hxV hN12 hN23 hN34
            go_wp2_with fail
            go_roundw
            case rel => exact ⟨k + 1, _, _, _, by go_num, by omega, HF, HA2, HC2, HHB2⟩
            case measure => simp [intOf]; omega
        · obtain rfl : k = m := by omega
          go_wp2_with fail
          go_roundw
          case rel => exact ⟨i + 1, cur1, aa1, cc1, by go_num, by omega, Lib.hid (HGk.out.congr14 (fun j hj => by unfold mixC; rw [if_pos hj, HMX9.out])), HBk, by have := HCk.out.size; omega⟩
          case measure => simp [intOf]; omega
    · obtain rfl : i = x.length := by omega
      clear hil
      go_wp2_with fail
      have hg := HG.out.cols (by unfold maxLen; omega)
      rw [List.take_length] at hg
      refine (lcols_v (some ⟨bg, 0, none⟩) (some ⟨bc, 0, none⟩) m m m m _ _ _ _ wi hg (HALL.out.below HB.out)).mono ?_
      rintro e w10 ⟨t, rfl, ht, hb10⟩
      obtain rfl : t = true := ht.2 rfl
      have HB10 := Lib.hid (bt (bt HB4.out HB.out) hb10)
      clear hb10 ht hg
      go_wp2_with fail
      go_ret
      exact ⟨rfl, HB10.out⟩
end Go.Proofs.Ytibhcibcfommeaa
