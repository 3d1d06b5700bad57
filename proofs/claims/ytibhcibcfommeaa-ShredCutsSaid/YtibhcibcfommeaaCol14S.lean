/-
 Plain: how deep made schemas are. Plain: what chapter 14 promises of a record's cells. Plain: the levels of a record's cells. Records' cells: levels, beginnings, values. Plain.
-/
import Derived.Test.YtibhcibcfommeaaMkP
import Derived.Test.YtibhcibcfommeaaCol14Q
import Derived.Test.YtibhcibcfommeaaOkP
set_option linter.unusedSimpArgs false
namespace Go.Proofs.Ytibhcibcfommeaa
open Go.RowKit Go.Shr
mutual
/-- How many groups stand in one another. -/
def hgt : Sh → Nat
 | .mk _ _ _ ks => hgtL ks
def hgtL : List Sh → Nat
 | [] => 0
 | s :: r => Nat.max (hgt s + 1) (hgtL r)
end
theorem hgtL_le {ks : List Sh} {m : Nat} (h : ∀ s ∈ ks, hgt s + 1 ≤ m) : hgtL ks ≤ m := by
 induction ks with
 | nil => simp [hgtL]
 | cons s r ih =>
  simp only [hgtL]
  exact Nat.max_le.2 ⟨h s (by simp), ih fun x hx => h x (by simp [hx])⟩
/-- How deep what is open may be. -/
def HZ : Zs → Prop
 | [] => True
 | x :: r => (∀ s ∈ x.2, hgt s + (r.length + 1) ≤ 5) ∧ r.length + 1 ≤ 5 ∧ HZ r
theorem HZ.merge {x y : Hd × List Sh} {r : Zs} (h : HZ (x :: y :: r)) : HZ ((y.1, y.2 ++ [.mk x.1.name x.1.rep x.1.kind x.2]) :: r) := by
 simp only [HZ, List.length_cons] at h ⊢
 obtain ⟨h1, h2, h3, h4, h5⟩ := h
 refine ⟨fun s hs => ?_, h4, h5⟩
 rcases List.mem_append.1 hs with hs | hs
 ·exact h3 s hs
 ·rw [List.mem_singleton.1 hs]
  simp only [hgt]
  have : hgtL x.2 ≤ 5 - (r.length + 1) := hgtL_le fun s hs => by have := h1 s hs; omega
  omega
theorem HZ.pop : ∀ (k : Nat) {z : Zs}, HZ z → HZ (popN k z)
 | 0, z, h => h
 | k + 1, [], h => by simpa [popN] using h
 | k + 1, [x], h => by simpa [popN] using h
 | k + 1, x :: y :: r, h => by
  unfold popN
  dsimp only
  split
  ·exact h
  ·exact HZ.pop k h.merge
theorem HZ.add {z : Zs} (h : HZ z) (nm : ByteArray) (rep kind : Int) (hk : kind = 0 → z.length ≤ 4) : HZ (addF nm rep kind z) := by
 cases z with
 | nil => simp [addF, HZ]
 | cons x r =>
  unfold addF
  dsimp only
  split
  ·rename_i h'
   have := hk h'
   simp only [List.length_cons] at this
   simp only [HZ, List.length_cons]
   exact ⟨fun s hs => by simp at hs, by omega, h⟩
  ·simp only [HZ] at h ⊢
   refine ⟨fun s hs => ?_, h.2.1, h.2.2⟩
   rcases List.mem_append.1 hs with hs | hs
   ·exact h.1 s hs
   ·rw [List.mem_singleton.1 hs]; simp only [hgt, hgtL]; omega
theorem HZ.run (ns : List Int) : ∀ i, HZ (runZ ns i)
 | 0 => by simp [runZ, HZ]
 | i + 1 => by
  simp only [runZ, stepZ]
  exact (HZ.pop _ (HZ.run ns i)).add _ _ _ (kindOf_bd _ _).2.2
theorem HZ.fin {z : Zs} (h : HZ z) : HZ (finZ z) := by
 cases z with
 | nil => simp [finZ, HZ]
 | cons x r =>
  unfold finZ
  dsimp only
  split
  ·simp only [HZ] at h ⊢
   exact ⟨fun s hs => by rw [List.mem_singleton.1 hs]; simp only [hgt, hgtL]; omega, h.2⟩
  ·exact h
theorem HZ.zip : ∀ (n : Nat) (z : Zs), z.length = n → HZ z → hgt (zipUp z) ≤ 5
 | _, [], _, h => by simp [zipUp, hgt, hgtL]
 | _, [x], _, h => by
  simp only [zipUp, hgt]
  simp only [HZ, List.length_nil] at h
  exact hgtL_le fun s hs => by have := h.1 s hs; omega
 | 0, _ :: _ :: _, h, _ => by simp at h
 | n + 1, x :: y :: r, hl, h => by
  rw [zipUp]
  exact HZ.zip n _ (by simpa using hl) h.merge
theorem make_hgt (ns : List Int) : hgt (makeSh ns) ≤ 5 := HZ.zip _ _ rfl (HZ.run ns _).fin
end Go.Proofs.Ytibhcibcfommeaa
namespace Go.Proofs.Ytibhcibcfommeaa
open Go.RowKit Go.Shr
mutual
/-- A tree whose lists hold three at most. -/
def thT : Sh → Tr → Prop
 | .mk _ _ kd ks, t => kd = 0 → thK ks t.kids
def thK : List Sh → List (List Tr) → Prop
 | [], _ => True
 | _ :: _, [] => True
 | s :: r, x :: xs => x.length ≤ 3 ∧ (∀ t ∈ x, thT s t) ∧ thK r xs
end
theorem cntOf_3 (ns : List Int) (rp : Int) (k : Nat) : (cntOf ns rp k).1 ≤ 3 := by
 unfold cntOf
 have h1 := Int.emod_nonneg (ns.getD k 0) (show (2 : Int) ≠ 0 by decide)
 have h2 := Int.emod_lt_of_pos (ns.getD k 0) (show (0 : Int) < 2 by decide)
 have h3 := Int.emod_nonneg (ns.getD k 0) (show (4 : Int) ≠ 0 by decide)
 have h4 := Int.emod_lt_of_pos (ns.getD k 0) (show (0 : Int) < 4 by decide)
 split
 ·dsimp only; omega
 ·split
  ·dsimp only; omega
  ·dsimp only; omega
mutual
theorem th_mkT (ns : List Int) : ∀ (s : Sh) (k : Nat), thT s (mkT ns s k).1
 | .mk nm rp kd ks, k => by
  simp only [thT]
  intro hk
  subst hk
  have := th_mkK ns ks (nextA ns k)
  simpa [mkT, Tr.kids] using this
theorem th_mkK (ns : List Int) : ∀ (ks : List Sh) (k : Nat), thK ks (mkK ns ks k).1
 | [], k => by simp [thK]
 | s :: r, k => by
  simp only [mkK, thK]
  exact ⟨by rw [mkX_len]; exact cntOf_3 _ _ _, mkX_mem (fun j => th_mkT ns s j) _ _, th_mkK ns r _⟩
end
theorem flatMap_le {g : Tr → List Cel} {B : Nat} : ∀ (x : List Tr), (∀ t ∈ x, (g t).length ≤ B) → (x.flatMap g).length ≤ x.length * B
 | [], _ => by simp
 | t :: x, h => by
  have h1 := h t (by simp)
  have h2 := flatMap_le x fun u hu => h u (by simp [hu])
  rw [List.flatMap_cons, List.length_append, List.length_cons, Nat.succ_mul]
  omega
theorem fldX_cnt {g : Nat → Tr → List Cel} {r deep B : Nat} {e : List Cel} (hB : 1 ≤ B) (he : e.length ≤ 1) : ∀ (x : List Tr), x.length ≤ 3 → (∀ r', ∀ t ∈ x, (g r' t).length ≤ B) → (fldX g r deep e x).length ≤ 3 * B
 | [], _, _ => by simp only [fldX]; omega
 | t :: ts, h3, h => by
  have h1 := h r t (by simp)
  have h2 := flatMap_le (g := g deep) ts fun u hu => h deep u (by simp [hu])
  simp only [List.length_cons] at h3
  have h4 : ts.length * B ≤ 2 * B := Nat.mul_le_mul_right _ (by omega)
  simp only [fldX, List.length_append]
  omega
theorem pow3_pos (n : Nat) : 1 ≤ 3 ^ n := Nat.one_le_pow _ _ (by decide)
mutual
theorem valC_cnt {lf : Nat} : ∀ (s : Sh) (i d deep r : Nat) (t : Tr), thT s t → (valC lf i d deep r s t).length ≤ 3 ^ hgt s
 | .mk nm rp kd ks, i, d, deep, r, t, h => by
  simp only [thT] at h
  simp only [valC, hgt]
  split
  ·split
   ·simpa using pow3_pos _
   ·simp
  ·rename_i hk
   exact kidC_cnt ks (i + 1) d deep r t.kids (h (Decidable.byContradiction hk))
theorem kidC_cnt {lf : Nat} : ∀ (ks : List Sh) (o d deep r : Nat) (xs : List (List Tr)), thK ks xs → (kidC lf o d deep r ks xs).length ≤ 3 ^ hgtL ks
 | [], o, d, deep, r, xs, h => by simp [kidC]
 | s :: q, o, d, deep, r, [], h => by simp [kidC]
 | s :: q, o, d, deep, r, x :: xs, h => by
  simp only [thK] at h
  rw [kidC_cons, List.length_append]
  simp only [hgtL]
  have m1 : hgt s + 1 ≤ Nat.max (hgt s + 1) (hgtL q) := Nat.le_max_left _ _
  have m2 : hgtL q ≤ Nat.max (hgt s + 1) (hgtL q) := Nat.le_max_right _ _
  have p1 : 3 ^ (hgt s + 1) ≤ 3 ^ Nat.max (hgt s + 1) (hgtL q) := Nat.pow_le_pow_right (by decide) m1
  have p2 : 3 ^ hgtL q ≤ 3 ^ Nat.max (hgt s + 1) (hgtL q) := Nat.pow_le_pow_right (by decide) m2
  by_cases hr : o ≤ lf ∧ lf < o + s.size
  ·rw [kidC_out q (o + s.size) d deep r xs (by omega)]
   have := fldX_cnt (g := fun r' u => valC lf o (d + dmI s.rep) (deep + rmI s.rep) r' s u) (r := r) (deep := deep + rmI s.rep) (pow3_pos (hgt s)) (noneC_len lf o s r d) x h.1 (fun r' t ht => valC_cnt s o _ _ r' t (h.2.1 t ht))
   unfold fldC
   rw [Nat.pow_succ] at p1
   simp only [List.length_nil]
   omega
  ·rw [fldC_out s o d deep r x hr]
   have := kidC_cnt (lf := lf) q (o + s.size) d deep r xs h.2.2
   simp only [List.length_nil]
   omega
end
/-- Records that are made have no more cells than may be. -/
theorem rows_cnt {lf : Nat} {sh : Sh} (hh : hgt sh ≤ 5) : ∀ (rows : List Tr), (∀ t ∈ rows, thT sh t) → (rowsC lf sh rows).length ≤ rows.length * 243
 | [], _ => by simp [rowsC]
 | t :: rows, h => by
  have h1 := valC_cnt (lf := lf) sh 0 0 0 0 t (h t (by simp))
  have h2 := rows_cnt (lf := lf) hh rows fun u hu => h u (by simp [hu])
  have h3 : 3 ^ hgt sh ≤ 3 ^ 5 := Nat.pow_le_pow_right (by decide) hh
  unfold rowsC at h2 ⊢
  rw [List.flatMap_cons, List.length_append, List.length_cons, Nat.succ_mul]
  omega
theorem many_no {l : List Fl} {sh : Sh} (hh : hgt sh ≤ 5) {rows : List Tr} (hr : ∀ t ∈ rows, thT sh t) (hn : rows.length ≤ 16) (lfs : List Nat) : manyC lfs sh rows = false := by
 unfold manyC
 rw [Bool.eq_false_iff]
 intro h
 rw [List.any_eq_true] at h
 obtain ⟨lf, _, h2⟩ := h
 have h3 := rows_cnt (lf := lf) hh rows hr
 have h4 := of_decide_eq_true h2
 have : rows.length * 243 ≤ 16 * 243 := Nat.mul_le_mul_right _ hn
 omega
end Go.Proofs.Ytibhcibcfommeaa
namespace Go.Proofs.Ytibhcibcfommeaa
open Go.RowKit Go.Shr
theorem lv_step {l : List Fl} {o i : Nat} {f : Fl} (ho : o < (par l).length) (hp : (par l)[o] = (i : Int)) (hf : l[o]? = some f) : lvR l o = lvR l i + rmI f.rep ∧ lvD l o = lvD l i + dmI f.rep := by
 have hfl : flN l o = f := by simp [flN, List.getD, hf]
 unfold lvR lvD
 rw [chain_eq (fun j hj => par_bd l j hj) ho, hp, chainI_nat, cntR_cons, cntD_cons, hfl]
 unfold rmI dmI
 constructor
 ·split <;> omega
 ·split <;> omega
theorem lvR_le {l : List Fl} {i lf : Nat} (h : i ∈ Go.Shr.chain (par l) lf) : lvR l i ≤ lvR l lf ∧ lvD l i ≤ lvD l lf := by
 obtain ⟨A, hA, _⟩ := chain_sub (par l) i lf h
 unfold lvR lvD cntR cntD
 rw [hA, List.filter_append, List.filter_append, List.length_append, List.length_append]
 omega
/-- What holds of the cells of a leaf in a value. -/
def CelOk (l : List Fl) (lf r : Nat) (C : List Cel) : Prop := ∃ c cs, C = c :: cs ∧ c.r = r ∧ (∀ x ∈ cs, 1 ≤ x.r ∧ x.r ≤ lvR l lf) ∧ ∀ x ∈ C, x.d ≤ lvD l lf ∧ (x.d = lvD l lf ↔ x.v.isSome = true)
theorem CelOk.append {l : List Fl} {lf r r2 : Nat} {A B : List Cel} (ha : CelOk l lf r A) (hb : CelOk l lf r2 B) (h1 : 1 ≤ r2) (h2 : r2 ≤ lvR l lf) : CelOk l lf r (A ++ B) := by
 obtain ⟨c, cs, rfl, hc, hcs, hd⟩ := ha
 obtain ⟨b, bs, rfl, hb1, hbs, hbd⟩ := hb
 refine ⟨c, cs ++ b :: bs, rfl, hc, fun x hx => ?_, fun x hx => ?_⟩
 ·rcases List.mem_append.1 hx with hx | hx
  ·exact hcs x hx
  ·rcases List.mem_cons.1 hx with rfl | hx
   ·rw [hb1]; exact ⟨h1, h2⟩
   ·exact hbs x hx
 ·rcases List.mem_append.1 hx with hx | hx
  ·exact hd x hx
  ·exact hbd x hx
theorem fldX_ok {l : List Fl} {lf r deep : Nat} {g : Nat → Tr → List Cel} {e : List Cel} (he : CelOk l lf r e) (x : List Tr) (hd : 2 ≤ x.length → 1 ≤ deep ∧ deep ≤ lvR l lf) (hg : ∀ r', ∀ t ∈ x, CelOk l lf r' (g r' t)) : CelOk l lf r (fldX g r deep e x) := by
 cases x with
 | nil => exact he
 | cons t ts =>
  simp only [fldX]
  have key : ∀ (ys : List Tr) (A : List Cel), (∀ u ∈ ys, CelOk l lf deep (g deep u)) → (ys ≠ [] → 1 ≤ deep ∧ deep ≤ lvR l lf) → CelOk l lf r A → CelOk l lf r (A ++ ys.flatMap (g deep)) := by
   intro ys
   induction ys with
   | nil => intro A _ _ h; simpa using h
   | cons u ys ih =>
    intro A hy hn h
    have hdd := hn (by simp)
    rw [List.flatMap_cons, ← List.append_assoc]
    exact ih _ (fun v hv => hy v (by simp [hv])) (fun _ => hdd) (h.append (hy u (by simp)) hdd.1 hdd.2)
  refine key ts _ (fun u hu => hg deep u (by simp [hu])) (fun hn => hd ?_) (hg r t (by simp))
  have : 0 < ts.length := List.length_pos_iff.2 hn
  simp only [List.length_cons]; omega
mutual
theorem valC_ok {l : List Fl} {lf : Nat} (hlf : lf < (par l).length) (hkl : (flN l lf).kind ≠ 0) : ∀ (s : Sh) (i r : Nat) (t : Tr), Ix l (fun v => kidsOf (par l) v) i s → i + s.size ≤ (par l).length → GoodS s → okT s t → i ≤ lf → lf < i + s.size → CelOk l lf r (valC lf i (lvD l i) (lvR l i) r s t)
 | .mk nm rp kd ks, i, r, t, hx, hn, hg, hok, h1, h2 => by
  simp only [GoodS] at hg
  simp only [Ix] at hx
  simp only [valC]
  rw [okT] at hok
  by_cases hk : kd = 0
  ·subst hk
   rw [if_neg (by decide), if_neg (by decide), if_neg (by decide), if_neg (by decide)] at hok
   rw [if_neg (by decide)]
   simp only [Sh.size] at h2 hn
   have hne : lf ≠ i := by
    intro e
    rw [e] at hkl
    exact hkl (by simp [flN, List.getD, hx.1])
   refine kidC_ok hlf hkl ks (i + 1) i r t.kids hx.2.2 (by omega) hg.2.2.2.2.2.2 hok.2.2 (fun j hj => ?_) (by omega) (by omega)
   rw [← hx.2.1] at hj
   exact par_some hj
  ·rw [if_pos hk]
   have hks := hg.2.2.2.2.1 hk
   subst hks
   simp only [Sh.size, shSizes] at h2
   have hi : i = lf := by omega
   subst hi
   rw [if_pos rfl]
   exact ⟨_, [], rfl, rfl, (fun x hx => by cases hx), fun x hx => by rw [List.mem_singleton.1 hx]; simp⟩
theorem kidC_ok {l : List Fl} {lf : Nat} (hlf : lf < (par l).length) (hkl : (flN l lf).kind ≠ 0) : ∀ (ks : List Sh) (o i r : Nat) (xs : List (List Tr)), IxL l (fun v => kidsOf (par l) v) o ks → o + shSizes ks ≤ (par l).length → GoodL ks → okK ks xs →
  (∀ j : Nat, (j : Int) ∈ offs o ks → ∃ hj : j < (par l).length, (par l)[j] = (i : Int)) → o ≤ lf → lf < o + shSizes ks → CelOk l lf r (kidC lf o (lvD l i) (lvR l i) r ks xs)
 | [], o, i, r, xs, _, _, _, _, _, h1, h2 => by simp only [shSizes] at h2; omega
 | s :: q, o, i, r, [], _, _, _, hok, _, _, _ => by rw [okK] at hok; exact hok.elim
 | s :: q, o, i, r, x :: xs, hx, hn, hg, hok, hp, h1, h2 => by
  simp only [GoodL] at hg
  simp only [IxL] at hx
  simp only [shSizes] at h2 hn
  rw [okK] at hok
  rw [kidC_cons]
  by_cases hr : lf < o + s.size
  ·rw [kidC_out q (o + s.size) _ _ r xs (by omega), List.append_nil]
   obtain ⟨hj, hpo⟩ := hp o (by simp [offs])
   have hf : ∃ f, l[o]? = some f ∧ f.rep = s.rep := by
    obtain ⟨nm, rp, kd, kk⟩ := s
    have := hx.1
    simp only [Ix] at this
    exact ⟨_, this.1, rfl⟩
   obtain ⟨f, hf1, hf2⟩ := hf
   have hst := lv_step hj hpo hf1
   rw [hf2] at hst
   have hm := chain_in s o hx.1 (by omega) lf h1 hr
   have hle := lvR_le hm
   unfold fldC
   rw [← hst.1, ← hst.2]
   by_cases he : x = []
   ·subst he
    simp only [fldX]
    have hrep : s.rep = 1 ∨ s.rep = 2 := by
     have := hok.1
     unfold okRep at this
     split at this
     ·rename_i h; exact .inl h
     ·split at this
      ·rename_i h; exact .inr h
      ·simp at this
    have hdm : dmI s.rep = 1 := by unfold dmI; rcases hrep with h | h <;> rw [h] <;> rfl
    unfold noneC
    rw [if_pos ⟨h1, hr⟩]
    refine ⟨_, [], rfl, rfl, (fun y hy => by cases hy), fun y hy => ?_⟩
    rw [List.mem_singleton.1 hy]
    dsimp only
    refine ⟨by omega, fun h => by omega, fun h => by cases h⟩
   ·cases x with
    | nil => exact absurd rfl he
    | cons t ts =>
     have hgg : ∀ r', ∀ u ∈ t :: ts, CelOk l lf r' (valC lf o (lvD l o) (lvR l o) r' s u) := fun r' u hu => valC_ok hlf hkl s o r' u hx.1 (by omega) hg.1 (hok.2.1 u hu) h1 hr
     have h3 := hgg r t (by simp)
     have h4 := fldX_ok (g := fun r' u => valC lf o (lvD l o) (lvR l o) r' s u) (deep := lvR l o) h3 (t :: ts) (fun h2' => ?_) hgg
     ·exact h4
     ·have hrep : s.rep = 2 := by
       have := hok.1
       unfold okRep at this
       split at this
       ·omega
       ·split at this
        ·assumption
        ·omega
      refine ⟨?_, hle.1⟩
      rw [hst.1]
      unfold rmI
      rw [if_pos hrep]
      omega
  ·rw [fldC_out s o _ _ r x (by omega), List.nil_append]
   exact kidC_ok hlf hkl q (o + s.size) i r xs hx.2 (by omega) hg.2 hok.2.2 (fun j hj => hp j (by simp [offs, hj])) (by omega) (by omega)
end
end Go.Proofs.Ytibhcibcfommeaa
namespace Go.Proofs.Ytibhcibcfommeaa
open Go.RowKit Go.Shr
theorem root_lv {l : List Fl} {sh : Sh} (hS : Sch l sh) (h0 : sh.rep = 0) : lvR l 0 = 0 ∧ lvD l 0 = 0 := by
 have hf : flN l 0 = ⟨sh.name, sh.rep, sh.kind, (flN l 0).kids⟩ := by
  have h := hS.flat
  obtain ⟨nm, rp, kd, ks⟩ := sh
  rw [h]
  rfl
 have h2 : (flN l 0).rep = 0 := by rw [hf]; exact h0
 unfold lvR lvD
 rw [chain_zero, cntR_cons, cntD_cons, h2]
 exact ⟨rfl, rfl⟩
theorem filt_some {D : Nat} : ∀ (C : List Cel), (∀ x ∈ C, (x.d = D ↔ x.v.isSome = true)) → (C.filter fun x => x.d == D).length = (celV C).length
 | [], _ => rfl
 | c :: C, h => by
  have ih := filt_some C (fun x hx => h x (List.mem_cons_of_mem _ hx))
  have hc := h c List.mem_cons_self
  unfold celV at ih ⊢
  cases hv : c.v with
  | none =>
   have : ¬ c.d = D := fun e => by have := hc.1 e; rw [hv] at this; cases this
   simp [hv, this, ih]
  | some v =>
   have : c.d = D := hc.2 (by rw [hv]; rfl)
   simp [hv, this, ih]
theorem filt_zero (C : List Cel) (h : ∀ x ∈ C, 1 ≤ x.r) : C.filter (fun x => x.r == 0) = [] := by
 rw [List.filter_eq_nil_iff]
 intro x hx e
 have := h x hx
 have h2 := beq_iff_eq.1 e
 omega
/-- What is known of a leaf's cells of records. -/
structure RowsOk (l : List Fl) (lf n : Nat) (C : List Cel) : Prop where
 lv : ∀ x ∈ C, x.r ≤ lvR l lf ∧ x.d ≤ lvD l lf
 begins : (C.filter fun x => x.r == 0).length = n
 whole : (C.filter fun x => x.d == lvD l lf).length = (celV C).length
 first : 0 < n → ∃ c cs, C = c :: cs ∧ c.r = 0
theorem rows_ok {l : List Fl} {sh : Sh} (hS : Sch l sh) (h0 : sh.rep = 0) {lf : Nat} (hlf : lf < l.length) (hk : (flN l lf).kind ≠ 0) : ∀ (rows : List Tr), (∀ t ∈ rows, okT sh t) → RowsOk l lf rows.length (rowsC lf sh rows)
 | [], _ => ⟨by simp [rowsC], rfl, rfl, fun h => absurd h (by simp)⟩
 | t :: rows, h => by
  have ih := rows_ok hS h0 hlf hk rows (fun x hx => h x (List.mem_cons_of_mem _ hx))
  have hl := par_length l
  have hc := valC_ok (lf := lf) (by rw [hl]; exact hlf) hk sh 0 0 t hS.ix (by rw [hl, hS.len]; omega) hS.good (h t List.mem_cons_self) (Nat.zero_le _) (by rw [Nat.zero_add, ← hS.len]; exact hlf)
  rw [(root_lv hS h0).1, (root_lv hS h0).2] at hc
  have he : rowsC lf sh (t :: rows) = valC lf 0 0 0 0 sh t ++ rowsC lf sh rows := by simp [rowsC]
  rw [he]
  obtain ⟨c, cs, h1, h2, h3, h4⟩ := hc
  rw [h1] at h4 ⊢
  have hcs := filt_zero cs (fun x hx => (h3 x hx).1)
  have hw := filt_some (c :: cs) (fun x hx => (h4 x hx).2)
  refine ⟨fun x hx => ?_, ?_, ?_, fun _ => ⟨c, cs ++ rowsC lf sh rows, rfl, h2⟩⟩
  ·rcases List.mem_append.1 hx with hx | hx
   ·refine ⟨?_, (h4 x hx).1⟩
    rcases List.mem_cons.1 hx with rfl | hx
    ·omega
    ·exact (h3 x hx).2
   ·exact ih.lv x hx
  ·rw [List.filter_append, List.length_append, ih.begins, List.filter_cons, hcs]
   simp [h2]; omega
  ·rw [List.filter_append, List.length_append, ih.whole, hw]
   unfold celV
   rw [List.filterMap_append, List.length_append]
end Go.Proofs.Ytibhcibcfommeaa
