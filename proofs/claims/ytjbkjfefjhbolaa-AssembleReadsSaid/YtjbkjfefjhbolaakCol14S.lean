import Derived.Test.YtjbkjfefjhbolaakOkP
set_option linter.all false
open List renaming length_append → zLP, length_cons → zLQ, mem_append → zLS, mem_singleton → zLT, length_nil → zLU, filter_append → zLX, flatMap_cons → zLY
open Nat renaming pow_le_pow_right → zLR, mul_le_mul_right → zLV, max → zLZ
open Int renaming emod_lt_of_pos → zLW
namespace Go.Proofs.Ytjbkjfefjhbolaa
open Go.RowKit Go.Shr
mutual
def hgt : Sh → Nat
 | .mk _ _ _ ks => zAN ks
def zAN : List Sh → Nat
 | [] => 0
 | s :: r => zLZ (hgt s + 1) (zAN r)
end
theorem zHA {ks : List Sh} {m : Nat} (h : ∀ s ∈ ks, hgt s + 1 ≤ m) : zAN ks ≤ m := by
 induction ks with
 | nil => simp [zAN]
 | cons s r ih =>
  simp only [zAN]
  exact Nat.max_le.2 ⟨h s (by simp), ih fun x hx => h x (by simp [hx])⟩
def HZ : Zs → Prop
 | [] => True
 | x :: r => (∀ s ∈ x.2, hgt s + (r.length + 1) ≤ 5) ∧ r.length + 1 ≤ 5 ∧ HZ r
theorem HZ.merge {x y : Hd × List Sh} {r : Zs} (h : HZ (x :: y :: r)) : HZ ((y.1, y.2 ++ [.mk x.1.name x.1.rep x.1.kind x.2]) :: r) := by
 simp only [HZ, zLQ] at h ⊢
 obtain ⟨h1, h2, h3, h4, h5⟩ := h
 refine ⟨fun s hs => ?_, h4, h5⟩
 rcases zLS.1 hs with hs | hs
 ·exact h3 s hs
 ·rw [zLT.1 hs]
  simp only [hgt]
  have : zAN x.2 ≤ 5 - (r.length + 1) := zHA fun s hs => by have := h1 s hs; omega
  omega
theorem HZ.pop : ∀ (k : Nat) {z : Zs}, HZ z → HZ (zA6 k z)
 | 0, z, h => h
 | k + 1, [], h => by simpa [zA6] using h
 | k + 1, [x], h => by simpa [zA6] using h
 | k + 1, x :: y :: r, h => by
  unfold zA6
  dsimp only
  split
  ·exact h
  ·exact HZ.pop k h.merge
theorem HZ.add {z : Zs} (h : HZ z) (nm : ByteArray) (rep kind : Int) (hk : kind = 0 → z.length ≤ 4) : HZ (zCS nm rep kind z) := by
 cases z with
 | nil => simp [zCS, HZ]
 | cons x r =>
  unfold zCS
  dsimp only
  split
  ·rename_i h'
   have := hk h'
   simp only [zLQ] at this
   simp only [HZ, zLQ]
   exact ⟨fun s hs => by simp at hs, by omega, h⟩
  ·simp only [HZ] at h ⊢
   refine ⟨fun s hs => ?_, h.2.1, h.2.2⟩
   rcases zLS.1 hs with hs | hs
   ·exact h.1 s hs
   ·rw [zLT.1 hs]; simp only [hgt, zAN]; omega
theorem HZ.run (ns : List Int) : ∀ i, HZ (qY ns i)
 | 0 => by simp [qY, HZ]
 | i + 1 => by
  simp only [qY, zD6]
  exact (HZ.pop _ (HZ.run ns i)).add _ _ _ (zCz _ _).2.2
theorem HZ.fin {z : Zs} (h : HZ z) : HZ (zFl z) := by
 cases z with
 | nil => simp [zFl, HZ]
 | cons x r =>
  unfold zFl
  dsimp only
  split
  ·simp only [HZ] at h ⊢
   exact ⟨fun s hs => by rw [zLT.1 hs]; simp only [hgt, zAN]; omega, h.2⟩
  ·exact h
theorem HZ.zip : ∀ (n : Nat) (z : Zs), z.length = n → HZ z → hgt (zAF z) ≤ 5
 | _, [], _, h => by simp [zAF, hgt, zAN]
 | _, [x], _, h => by
  simp only [zAF, hgt]
  simp only [HZ, zLU] at h
  exact zHA fun s hs => by have := h.1 s hs; omega
 | 0, _ :: _ :: _, h, _ => by simp at h
 | n + 1, x :: y :: r, hl, h => by
  rw [zAF]
  exact HZ.zip n _ (by simpa using hl) h.merge
theorem zF6 (ns : List Int) : hgt (jQ ns) ≤ 5 := HZ.zip _ _ rfl (HZ.run ns _).fin
mutual
def thT : Sh → Tr → Prop
 | .mk _ _ kd ks, t => kd = 0 → thK ks t.kids
def thK : List Sh → List (List Tr) → Prop
 | [], _ => True
 | _ :: _, [] => True
 | s :: r, x :: xs => x.length ≤ 3 ∧ (∀ t ∈ x, thT s t) ∧ thK r xs
end
theorem zKi (ns : List Int) (rp : Int) (k : Nat) : (qG ns rp k).1 ≤ 3 := by
 unfold qG
 have h1 := Int.emod_nonneg (ns.getD k 0) (show (2 : Int) ≠ 0 by decide)
 have h2 := zLW (ns.getD k 0) (show (0 : Int) < 2 by decide)
 have h3 := Int.emod_nonneg (ns.getD k 0) (show (4 : Int) ≠ 0 by decide)
 have h4 := zLW (ns.getD k 0) (show (0 : Int) < 4 by decide)
 split
 ·dsimp only; omega
 ·split
  ·dsimp only; omega
  ·dsimp only; omega
mutual
theorem zJp (ns : List Int) : ∀ (s : Sh) (k : Nat), thT s (mkT ns s k).1
 | .mk nm rp kd ks, k => by
  simp only [thT]
  intro hk
  subst hk
  have := zJq ns ks (yC ns k)
  simpa [mkT, Tr.kids] using this
theorem zJq (ns : List Int) : ∀ (ks : List Sh) (k : Nat), thK ks (mkK ns ks k).1
 | [], k => by simp [thK]
 | s :: r, k => by
  simp only [mkK, thK]
  exact ⟨by rw [zDr]; exact zKi _ _ _, zFc (fun j => zJp ns s j) _ _, zJq ns r _⟩
end
theorem zB2 {g : Tr → List Cel} {B : Nat} : ∀ (x : List Tr), (∀ t ∈ x, (g t).length ≤ B) → (x.flatMap g).length ≤ x.length * B
 | [], _ => by simp
 | t :: x, h => by
  have h1 := h t (by simp)
  have h2 := zB2 x fun u hu => h u (by simp [hu])
  rw [zLY, zLP, zLQ, Nat.succ_mul]
  omega
theorem zJd {g : Nat → Tr → List Cel} {r deep B : Nat} {e : List Cel} (hB : 1 ≤ B) (he : e.length ≤ 1) : ∀ (x : List Tr), x.length ≤ 3 → (∀ r', ∀ t ∈ x, (g r' t).length ≤ B) → (zB6 g r deep e x).length ≤ 3 * B
 | [], _, _ => by simp only [zB6]; omega
 | t :: ts, h3, h => by
  have h1 := h r t (by simp)
  have h2 := zB2 (g := g deep) ts fun u hu => h deep u (by simp [hu])
  simp only [zLQ] at h3
  have h4 : ts.length * B ≤ 2 * B := zLV _ (by omega)
  simp only [zB6, zLP]
  omega
theorem zFY (n : Nat) : 1 ≤ 3 ^ n := Nat.one_le_pow _ _ (by decide)
mutual
theorem zFP {lf : Nat} : ∀ (s : Sh) (i d deep r : Nat) (t : Tr), thT s t → (yK lf i d deep r s t).length ≤ 3 ^ hgt s
 | .mk nm rp kd ks, i, d, deep, r, t, h => by
  simp only [thT] at h
  simp only [yK, hgt]
  split
  ·split
   ·simpa using zFY _
   ·simp
  ·rename_i hk
   exact zGb ks (i + 1) d deep r t.kids (h (Decidable.byContradiction hk))
theorem zGb {lf : Nat} : ∀ (ks : List Sh) (o d deep r : Nat) (xs : List (List Tr)), thK ks xs → (qB lf o d deep r ks xs).length ≤ 3 ^ zAN ks
 | [], o, d, deep, r, xs, h => by simp [qB]
 | s :: q, o, d, deep, r, [], h => by simp [qB]
 | s :: q, o, d, deep, r, x :: xs, h => by
  simp only [thK] at h
  rw [xH, zLP]
  simp only [zAN]
  have m1 : hgt s + 1 ≤ zLZ (hgt s + 1) (zAN q) := Nat.le_max_left _ _
  have m2 : zAN q ≤ zLZ (hgt s + 1) (zAN q) := Nat.le_max_right _ _
  have p1 : 3 ^ (hgt s + 1) ≤ 3 ^ zLZ (hgt s + 1) (zAN q) := zLR (by decide) m1
  have p2 : 3 ^ zAN q ≤ 3 ^ zLZ (hgt s + 1) (zAN q) := zLR (by decide) m2
  by_cases hr : o ≤ lf ∧ lf < o + s.size
  ·rw [wX q (o + s.size) d deep r xs (by omega)]
   have := zJd (g := fun r' u => yK lf o (d + dmI s.rep) (deep + rmI s.rep) r' s u) (r := r) (deep := deep + rmI s.rep) (zFY (hgt s)) (zEw lf o s r d) x h.1 (fun r' t ht => zFP s o _ _ r' t (h.2.1 t ht))
   unfold jO
   rw [Nat.pow_succ] at p1
   simp only [zLU]
   omega
  ·rw [zAX s o d deep r x hr]
   have := zGb (lf := lf) q (o + s.size) d deep r xs h.2.2
   simp only [zLU]
   omega
end
theorem zFV {lf : Nat} {sh : Sh} (hh : hgt sh ≤ 5) : ∀ (rows : List Tr), (∀ t ∈ rows, thT sh t) → (zS lf sh rows).length ≤ rows.length * 243
 | [], _ => by simp [zS]
 | t :: rows, h => by
  have h1 := zFP (lf := lf) sh 0 0 0 0 t (h t (by simp))
  have h2 := zFV (lf := lf) hh rows fun u hu => h u (by simp [hu])
  have h3 : 3 ^ hgt sh ≤ 3 ^ 5 := zLR (by decide) hh
  unfold zS at h2 ⊢
  rw [zLY, zLP, zLQ, Nat.succ_mul]
  omega
theorem zJ1 {l : List Fl} {sh : Sh} (hh : hgt sh ≤ 5) {rows : List Tr} (hr : ∀ t ∈ rows, thT sh t) (hn : rows.length ≤ 16) (lfs : List Nat) : zBk lfs sh rows = false := by
 unfold zBk
 rw [Bool.eq_false_iff]
 intro h
 rw [List.any_eq_true] at h
 obtain ⟨lf, _, h2⟩ := h
 have h3 := zFV (lf := lf) hh rows hr
 have h4 := of_decide_eq_true h2
 have : rows.length * 243 ≤ 16 * 243 := zLV _ hn
 omega
theorem zDs {l : List Fl} {o i : Nat} {f : Fl} (ho : o < (par l).length) (hp : (par l)[o] = (i : Int)) (hf : l[o]? = some f) : lvR l o = lvR l i + rmI f.rep ∧ lvD l o = lvD l i + dmI f.rep := by
 have hfl : flN l o = f := by simp [flN, List.getD, hf]
 unfold lvR lvD
 rw [xU (fun j hj => yI l j hj) ho, hp, yF, jI, zAq, hfl]
 unfold rmI dmI
 constructor
 ·split <;> omega
 ·split <;> omega
theorem zKX {l : List Fl} {i lf : Nat} (h : i ∈ Go.Shr.chain (par l) lf) : lvR l i ≤ lvR l lf ∧ lvD l i ≤ lvD l lf := by
 obtain ⟨A, hA, _⟩ := zBH (par l) i lf h
 unfold lvR lvD zAj zBh
 rw [hA, zLX, zLX, zLP, zLP]
 omega
def zIz (l : List Fl) (lf r : Nat) (C : List Cel) : Prop := ∃ c cs, C = c :: cs ∧ c.r = r ∧ (∀ x ∈ cs, 1 ≤ x.r ∧ x.r ≤ lvR l lf) ∧ ∀ x ∈ C, x.d ≤ lvD l lf ∧ (x.d = lvD l lf ↔ x.v.isSome = true)
theorem zIz.append {l : List Fl} {lf r r2 : Nat} {A B : List Cel} (ha : zIz l lf r A) (hb : zIz l lf r2 B) (h1 : 1 ≤ r2) (h2 : r2 ≤ lvR l lf) : zIz l lf r (A ++ B) := by
 obtain ⟨c, cs, rfl, hc, hcs, hd⟩ := ha
 obtain ⟨b, bs, rfl, hb1, hbs, hbd⟩ := hb
 refine ⟨c, cs ++ b :: bs, rfl, hc, fun x hx => ?_, fun x hx => ?_⟩
 ·rcases zLS.1 hx with hx | hx
  ·exact hcs x hx
  ·rcases List.mem_cons.1 hx with rfl | hx
   ·rw [hb1]; exact ⟨h1, h2⟩
   ·exact hbs x hx
 ·rcases zLS.1 hx with hx | hx
  ·exact hd x hx
  ·exact hbd x hx
theorem zDi {l : List Fl} {sh : Sh} (hS : Sch l sh) (h0 : sh.rep = 0) : lvR l 0 = 0 ∧ lvD l 0 = 0 := by
 have hf : flN l 0 = ⟨sh.name, sh.rep, sh.kind, (flN l 0).kids⟩ := by
  have h := hS.flat
  obtain ⟨nm, rp, kd, ks⟩ := sh
  rw [h]
  rfl
 have h2 : (flN l 0).rep = 0 := by rw [hf]; exact h0
 unfold lvR lvD
 rw [zBc, jI, zAq, h2]
 exact ⟨rfl, rfl⟩
end Go.Proofs.Ytjbkjfefjhbolaa
