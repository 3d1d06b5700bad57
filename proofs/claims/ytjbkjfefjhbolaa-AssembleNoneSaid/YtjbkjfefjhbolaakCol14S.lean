import Derived.Test.YtjbkjfefjhbolaakTrG
import Derived.Test.YtjbkjfefjhbolaakOkP
set_option linter.unusedSimpArgs false
set_option linter.unusedVariables false
namespace Go.Proofs.Ytjbkjfefjhbolaa
open Go.RowKit Go.Shr
mutual
/-- How many groups stand in one another. -/
def hgt : Sh → Nat
 | .mk _ _ _ ks => hgtL ks
def hgtL : List Sh → Nat
 | [] => 0
 | s :: r => Nat.max (hgt s + 1) (hgtL r)
end
theorem hgtL_le {ks : List Sh} {m : Nat} (h : ∀ s ∈ ks, hgt s + 1 ≤ m) : hgtL ks ≤ m := by
 induction ks with
 | nil => simp [hgtL]
 | cons s r ih =>
  simp only [hgtL]
  exact Nat.max_le.2 ⟨h s (by simp), ih fun x hx => h x (by simp [hx])⟩
/-- How deep what is open may be. -/
def HZ : Zs → Prop
 | [] => True
 | x :: r => (∀ s ∈ x.2, hgt s + (r.length + 1) ≤ 5) ∧ r.length + 1 ≤ 5 ∧ HZ r
theorem HZ.merge {x y : Hd × List Sh} {r : Zs} (h : HZ (x :: y :: r)) : HZ ((y.1, y.2 ++ [.mk x.1.name x.1.rep x.1.kind x.2]) :: r) := by
 simp only [HZ, List.length_cons] at h ⊢
 obtain ⟨h1, h2, h3, h4, h5⟩ := h
 refine ⟨fun s hs => ?_, h4, h5⟩
 rcases List.mem_append.1 hs with hs | hs
 ·exact h3 s hs
 ·rw [List.mem_singleton.1 hs]
  simp only [hgt]
  have : hgtL x.2 ≤ 5 - (r.length + 1) := hgtL_le fun s hs => by have := h1 s hs; omega
  omega
theorem HZ.pop : ∀ (k : Nat) {z : Zs}, HZ z → HZ (popN k z)
 | 0, z, h => h
 | k + 1, [], h => by simpa [popN] using h
 | k + 1, [x], h => by simpa [popN] using h
 | k + 1, x :: y :: r, h => by
  unfold popN
  dsimp only
  split
  ·exact h
  ·exact HZ.pop k h.merge
theorem HZ.add {z : Zs} (h : HZ z) (nm : ByteArray) (rep kind : Int) (hk : kind = 0 → z.length ≤ 4) : HZ (addF nm rep kind z) := by
 cases z with
 | nil => simp [addF, HZ]
 | cons x r =>
  unfold addF
  dsimp only
  split
  ·rename_i h'
   have := hk h'
   simp only [List.length_cons] at this
   simp only [HZ, List.length_cons]
   exact ⟨fun s hs => by simp at hs, by omega, h⟩
  ·simp only [HZ] at h ⊢
   refine ⟨fun s hs => ?_, h.2.1, h.2.2⟩
   rcases List.mem_append.1 hs with hs | hs
   ·exact h.1 s hs
   ·rw [List.mem_singleton.1 hs]; simp only [hgt, hgtL]; omega
theorem HZ.run (ns : List Int) : ∀ i, HZ (runZ ns i)
 | 0 => by simp [runZ, HZ]
 | i + 1 => by
  simp only [runZ, stepZ]
  exact (HZ.pop _ (HZ.run ns i)).add _ _ _ (kindOf_bd _ _).2.2
theorem HZ.fin {z : Zs} (h : HZ z) : HZ (finZ z) := by
 cases z with
 | nil => simp [finZ, HZ]
 | cons x r =>
  unfold finZ
  dsimp only
  split
  ·simp only [HZ] at h ⊢
   exact ⟨fun s hs => by rw [List.mem_singleton.1 hs]; simp only [hgt, hgtL]; omega, h.2⟩
  ·exact h
theorem HZ.zip : ∀ (n : Nat) (z : Zs), z.length = n → HZ z → hgt (zipUp z) ≤ 5
 | _, [], _, h => by simp [zipUp, hgt, hgtL]
 | _, [x], _, h => by
  simp only [zipUp, hgt]
  simp only [HZ, List.length_nil] at h
  exact hgtL_le fun s hs => by have := h.1 s hs; omega
 | 0, _ :: _ :: _, h, _ => by simp at h
 | n + 1, x :: y :: r, hl, h => by
  rw [zipUp]
  exact HZ.zip n _ (by simpa using hl) h.merge
theorem make_hgt (ns : List Int) : hgt (makeSh ns) ≤ 5 := HZ.zip _ _ rfl (HZ.run ns _).fin
end Go.Proofs.Ytjbkjfefjhbolaa
namespace Go.Proofs.Ytjbkjfefjhbolaa
open Go.RowKit Go.Shr
mutual
/-- A tree whose lists hold three at most. -/
def thT : Sh → Tr → Prop
 | .mk _ _ kd ks, t => kd = 0 → thK ks t.kids
def thK : List Sh → List (List Tr) → Prop
 | [], _ => True
 | _ :: _, [] => True
 | s :: r, x :: xs => x.length ≤ 3 ∧ (∀ t ∈ x, thT s t) ∧ thK r xs
end
theorem cntOf_3 (ns : List Int) (rp : Int) (k : Nat) : (cntOf ns rp k).1 ≤ 3 := by
 unfold cntOf
 have h1 := Int.emod_nonneg (ns.getD k 0) (show (2 : Int) ≠ 0 by decide)
 have h2 := Int.emod_lt_of_pos (ns.getD k 0) (show (0 : Int) < 2 by decide)
 have h3 := Int.emod_nonneg (ns.getD k 0) (show (4 : Int) ≠ 0 by decide)
 have h4 := Int.emod_lt_of_pos (ns.getD k 0) (show (0 : Int) < 4 by decide)
 split
 ·dsimp only; omega
 ·split
  ·dsimp only; omega
  ·dsimp only; omega
mutual
theorem th_mkT (ns : List Int) : ∀ (s : Sh) (k : Nat), thT s (mkT ns s k).1
 | .mk nm rp kd ks, k => by
  simp only [thT]
  intro hk
  subst hk
  have := th_mkK ns ks (nextA ns k)
  simpa [mkT, Tr.kids] using this
theorem th_mkK (ns : List Int) : ∀ (ks : List Sh) (k : Nat), thK ks (mkK ns ks k).1
 | [], k => by simp [thK]
 | s :: r, k => by
  simp only [mkK, thK]
  exact ⟨by rw [mkX_len]; exact cntOf_3 _ _ _, mkX_mem (fun j => th_mkT ns s j) _ _, th_mkK ns r _⟩
end
theorem flatMap_le {g : Tr → List Cel} {B : Nat} : ∀ (x : List Tr), (∀ t ∈ x, (g t).length ≤ B) → (x.flatMap g).length ≤ x.length * B
 | [], _ => by simp
 | t :: x, h => by
  have h1 := h t (by simp)
  have h2 := flatMap_le x fun u hu => h u (by simp [hu])
  rw [List.flatMap_cons, List.length_append, List.length_cons, Nat.succ_mul]
  omega
theorem fldX_cnt {g : Nat → Tr → List Cel} {r deep B : Nat} {e : List Cel} (hB : 1 ≤ B) (he : e.length ≤ 1) : ∀ (x : List Tr), x.length ≤ 3 → (∀ r', ∀ t ∈ x, (g r' t).length ≤ B) → (fldX g r deep e x).length ≤ 3 * B
 | [], _, _ => by simp only [fldX]; omega
 | t :: ts, h3, h => by
  have h1 := h r t (by simp)
  have h2 := flatMap_le (g := g deep) ts fun u hu => h deep u (by simp [hu])
  simp only [List.length_cons] at h3
  have h4 : ts.length * B ≤ 2 * B := Nat.mul_le_mul_right _ (by omega)
  simp only [fldX, List.length_append]
  omega
theorem pow3_pos (n : Nat) : 1 ≤ 3 ^ n := Nat.one_le_pow _ _ (by decide)
mutual
theorem valC_cnt {lf : Nat} : ∀ (s : Sh) (i d deep r : Nat) (t : Tr), thT s t → (valC lf i d deep r s t).length ≤ 3 ^ hgt s
 | .mk nm rp kd ks, i, d, deep, r, t, h => by
  simp only [thT] at h
  simp only [valC, hgt]
  split
  ·split
   ·simpa using pow3_pos _
   ·simp
  ·rename_i hk
   exact kidC_cnt ks (i + 1) d deep r t.kids (h (Decidable.byContradiction hk))
theorem kidC_cnt {lf : Nat} : ∀ (ks : List Sh) (o d deep r : Nat) (xs : List (List Tr)), thK ks xs → (kidC lf o d deep r ks xs).length ≤ 3 ^ hgtL ks
 | [], o, d, deep, r, xs, h => by simp [kidC]
 | s :: q, o, d, deep, r, [], h => by simp [kidC]
 | s :: q, o, d, deep, r, x :: xs, h => by
  simp only [thK] at h
  rw [kidC_cons, List.length_append]
  simp only [hgtL]
  have m1 : hgt s + 1 ≤ Nat.max (hgt s + 1) (hgtL q) := Nat.le_max_left _ _
  have m2 : hgtL q ≤ Nat.max (hgt s + 1) (hgtL q) := Nat.le_max_right _ _
  have p1 : 3 ^ (hgt s + 1) ≤ 3 ^ Nat.max (hgt s + 1) (hgtL q) := Nat.pow_le_pow_right (by decide) m1
  have p2 : 3 ^ hgtL q ≤ 3 ^ Nat.max (hgt s + 1) (hgtL q) := Nat.pow_le_pow_right (by decide) m2
  by_cases hr : o ≤ lf ∧ lf < o + s.size
  ·rw [kidC_out q (o + s.size) d deep r xs (by omega)]
   have := fldX_cnt (g := fun r' u => valC lf o (d + dmI s.rep) (deep + rmI s.rep) r' s u) (r := r) (deep := deep + rmI s.rep) (pow3_pos (hgt s)) (noneC_len lf o s r d) x h.1 (fun r' t ht => valC_cnt s o _ _ r' t (h.2.1 t ht))
   unfold fldC
   rw [Nat.pow_succ] at p1
   simp only [List.length_nil]
   omega
  ·rw [fldC_out s o d deep r x hr]
   have := kidC_cnt (lf := lf) q (o + s.size) d deep r xs h.2.2
   simp only [List.length_nil]
   omega
end
/-- Records that are made have no more cells than may be. -/
theorem rows_cnt {lf : Nat} {sh : Sh} (hh : hgt sh ≤ 5) : ∀ (rows : List Tr), (∀ t ∈ rows, thT sh t) → (rowsC lf sh rows).length ≤ rows.length * 243
 | [], _ => by simp [rowsC]
 | t :: rows, h => by
  have h1 := valC_cnt (lf := lf) sh 0 0 0 0 t (h t (by simp))
  have h2 := rows_cnt (lf := lf) hh rows fun u hu => h u (by simp [hu])
  have h3 : 3 ^ hgt sh ≤ 3 ^ 5 := Nat.pow_le_pow_right (by decide) hh
  unfold rowsC at h2 ⊢
  rw [List.flatMap_cons, List.length_append, List.length_cons, Nat.succ_mul]
  omega
theorem many_no {l : List Fl} {sh : Sh} (hh : hgt sh ≤ 5) {rows : List Tr} (hr : ∀ t ∈ rows, thT sh t) (hn : rows.length ≤ 16) (lfs : List Nat) : manyC lfs sh rows = false := by
 unfold manyC
 rw [Bool.eq_false_iff]
 intro h
 rw [List.any_eq_true] at h
 obtain ⟨lf, _, h2⟩ := h
 have h3 := rows_cnt (lf := lf) hh rows hr
 have h4 := of_decide_eq_true h2
 have : rows.length * 243 ≤ 16 * 243 := Nat.mul_le_mul_right _ hn
 omega
end Go.Proofs.Ytjbkjfefjhbolaa
namespace Go.Proofs.Ytjbkjfefjhbolaa
open Go.RowKit Go.Shr
theorem lv_step {l : List Fl} {o i : Nat} {f : Fl} (ho : o < (par l).length) (hp : (par l)[o] = (i : Int)) (hf : l[o]? = some f) : lvR l o = lvR l i + rmI f.rep ∧ lvD l o = lvD l i + dmI f.rep := by
 have hfl : flN l o = f := by simp [flN, List.getD, hf]
 unfold lvR lvD
 rw [chain_eq (fun j hj => par_bd l j hj) ho, hp, chainI_nat, cntR_cons, cntD_cons, hfl]
 unfold rmI dmI
 constructor
 ·split <;> omega
 ·split <;> omega
theorem lvR_le {l : List Fl} {i lf : Nat} (h : i ∈ Go.Shr.chain (par l) lf) : lvR l i ≤ lvR l lf ∧ lvD l i ≤ lvD l lf := by
 obtain ⟨A, hA, _⟩ := chain_sub (par l) i lf h
 unfold lvR lvD cntR cntD
 rw [hA, List.filter_append, List.filter_append, List.length_append, List.length_append]
 omega
/-- What holds of the cells of a leaf in a value. -/
def CelOk (l : List Fl) (lf r : Nat) (C : List Cel) : Prop := ∃ c cs, C = c :: cs ∧ c.r = r ∧ (∀ x ∈ cs, 1 ≤ x.r ∧ x.r ≤ lvR l lf) ∧ ∀ x ∈ C, x.d ≤ lvD l lf ∧ (x.d = lvD l lf ↔ x.v.isSome = true)
theorem CelOk.append {l : List Fl} {lf r r2 : Nat} {A B : List Cel} (ha : CelOk l lf r A) (hb : CelOk l lf r2 B) (h1 : 1 ≤ r2) (h2 : r2 ≤ lvR l lf) : CelOk l lf r (A ++ B) := by
 obtain ⟨c, cs, rfl, hc, hcs, hd⟩ := ha
 obtain ⟨b, bs, rfl, hb1, hbs, hbd⟩ := hb
 refine ⟨c, cs ++ b :: bs, rfl, hc, fun x hx => ?_, fun x hx => ?_⟩
 ·rcases List.mem_append.1 hx with hx | hx
  ·exact hcs x hx
  ·rcases List.mem_cons.1 hx with rfl | hx
   ·rw [hb1]; exact ⟨h1, h2⟩
   ·exact hbs x hx
 ·rcases List.mem_append.1 hx with hx | hx
  ·exact hd x hx
  ·exact hbd x hx
end Go.Proofs.Ytjbkjfefjhbolaa
namespace Go.Proofs.Ytjbkjfefjhbolaa
open Go.RowKit Go.Shr
theorem root_lv {l : List Fl} {sh : Sh} (hS : Sch l sh) (h0 : sh.rep = 0) : lvR l 0 = 0 ∧ lvD l 0 = 0 := by
 have hf : flN l 0 = ⟨sh.name, sh.rep, sh.kind, (flN l 0).kids⟩ := by
  have h := hS.flat
  obtain ⟨nm, rp, kd, ks⟩ := sh
  rw [h]
  rfl
 have h2 : (flN l 0).rep = 0 := by rw [hf]; exact h0
 unfold lvR lvD
 rw [chain_zero, cntR_cons, cntD_cons, h2]
 exact ⟨rfl, rfl⟩
end Go.Proofs.Ytjbkjfefjhbolaa
