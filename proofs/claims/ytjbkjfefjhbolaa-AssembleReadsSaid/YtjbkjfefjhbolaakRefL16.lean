import Derived.Test.YtjbkjfefjhbolaakRBeg16
import Derived.Test.YtjbkjfefjhbolaakRecords16
set_option linter.all false
open List renaming getD_eq_getElem?_getD → zLP, append_assoc → zLR, flatMap_cons → zLS, length_append → zLT, length_cons → zLU, cons_append → zLV, getElem?_eq_getElem → zLW, getElem?_eq_none → zLY, length_pos_iff → zL0
open Nat renaming le_refl → zLQ, zero_le → zLX, add_zero → zL1
open And renaming intro → zLZ
namespace Go.Proofs.Ytjbkjfefjhbolaa
open Go.RowKit Go.Shr
def Rem (q : BQ) (st : As) (k : Nat) (C : List Cel) : Prop := ∃ done, q.X k = clC (done ++ C) ∧ done.length = st.A k ∧ (zV done).length = st.V k
def HdC (deep : Nat) (C : List Cel) : Prop := ∀ c cs, C = c :: cs → c.r ≤ deep
theorem zDV (C D : List Cel) : zV (C ++ D) = zV C ++ zV D := by simp [zV]
section
variable {q : BQ} {st st' : As} {k : Nat} {c : Cel} {C : List Cel}
theorem Rem.len (h : Rem q st k C) : st.A k + C.length = lenX q k := by
 obtain ⟨done, h1, h2, h3⟩ := h
 unfold lenX; rw [h1]; simp [clC, h2]
theorem Rem.same (h : Rem q st k C) (hA : st'.A k = st.A k) (hV : st'.V k = st.V k) : Rem q st' k C := by
 obtain ⟨done, h1, h2, h3⟩ := h
 exact ⟨done, h1, by rw [hA]; exact h2, by rw [hV]; exact h3⟩
theorem Rem.cell (h : Rem q st k (c :: C)) : yV q st k = ((c.r : Int), (c.d : Int)) := by
 have hl := h.len
 obtain ⟨done, h1, h2, h3⟩ := h
 simp only [zLU] at hl
 unfold yV
 rw [if_pos (by omega), h1, ← h2]
 simp [clC, zLP]
theorem Rem.none (h : Rem q st k []) : yV q st k = (-1, -1) := by
 have hl := h.len
 simp only [List.length_nil, zL1] at hl
 unfold yV
 rw [if_neg (by omega)]
theorem Rem.skip (h : Rem q st k (c :: C)) (hc : c.v = Option.none) (hA : st'.A k = st.A k + 1) (hV : st'.V k = st.V k) : Rem q st' k C := by
 obtain ⟨done, h1, h2, h3⟩ := h
 refine ⟨done ++ [c], by rw [h1]; simp, by rw [hA]; simp [h2], ?_⟩
 rw [hV, zDV, zLT, h3]
 simp [zV, hc]
theorem Rem.val {v : Vc} (h : Rem q st k (c :: C)) (hc : c.v = some v) : st.V k < (q.X k).v.length ∧ vX q st k = v := by
 obtain ⟨done, h1, h2, h3⟩ := h
 have e : (q.X k).v = zV done ++ v :: zV C := by
  rw [h1]; show zV (done ++ c :: C) = _
  rw [zDV]; simp [zV, hc]
 unfold vX
 rw [e, ← h3]
 simp [zLP]
theorem Rem.take {v : Vc} (h : Rem q st k (c :: C)) (hc : c.v = some v) (hA : st'.A k = st.A k + 1) (hV : st'.V k = st.V k + 1) : Rem q st' k C := by
 obtain ⟨done, h1, h2, h3⟩ := h
 refine ⟨done ++ [c], by rw [h1]; simp, by rw [hA]; simp [h2], ?_⟩
 rw [hV, zDV, zLT, h3]
 simp [zV, hc]
end
theorem zI0 {q : BQ} {st : As} {k r d : Nat} {v : Vc} {C : List Cel} (h : Rem q st k (⟨r, d, some v⟩ :: C)) (hb : st.bad = false) : (zA9 q st k).1 = .mk v.n v.s [] ∧ (zA9 q st k).2.bad = false ∧ Rem q (zA9 q st k).2 k C := by
 have h1 := h.cell
 have h2 := h.val rfl
 unfold zA9
 rw [if_neg (by rw [h1]; dsimp only; omega)]
 exact ⟨by rw [h2.2], hb, h.take rfl (wL _ _) (wL _ _)⟩
theorem zF1 {q : BQ} {g : Nat → List Cel} : ∀ (n a : Nat) (st : As), st.bad = false → (∀ k, a ≤ k → k < a + n → ∃ c, c.v = none ∧ Rem q st k (c :: g k)) → (jD q n a st).bad = false ∧ ∀ k, a ≤ k → k < a + n → Rem q (jD q n a st) k (g k)
 | 0, a, st, hb, _ => ⟨hb, fun k h1 h2 => by omega⟩
 | n + 1, a, st, hb, h => by
  simp only [jD]
  obtain ⟨c, hcv, hc⟩ := h a (zLQ _) (by omega)
  have e : (st.bad || decide ((yV q st a).1 < 0)) = false := by
   rw [hb, hc.cell]; simp
  have hs := zF1 (q := q) (g := g) n (a + 1) ⟨zBP st.A a, st.V, st.bad || decide ((yV q st a).1 < 0)⟩ e (fun k h1 h2 => by
   obtain ⟨c', h3, h4⟩ := h k (by omega) (by omega)
   exact ⟨c', h3, h4.same (zCq _ (by omega)) rfl⟩)
  refine ⟨hs.1, fun k h1 h2 => ?_⟩
  by_cases hk : k = a
  ·subst hk
   have hb := zCd q n (k + 1) ⟨zBP st.A k, st.V, st.bad || decide ((yV q st k).1 < 0)⟩ (fun j g1 g2 => by
    obtain ⟨c', _, h4⟩ := h j (by omega) (by omega)
    have := h4.len
    dsimp only; rw [zCq _ (by omega)]; omega)
   have ho := hb.out k (by omega)
   exact hc.skip hcv (by rw [ho.1]; exact wL _ _) ho.2
  ·exact hs.2 k (by omega) (by omega)
def FOk (q : BQ) (a b deep : Nat) (T : Tr → Prop) (g : Nat → Nat → Tr → List Cel) (f : As → Tr × As) : Prop :=
 ∀ (t : Tr) (r : Nat) (st : As) (R : Nat → List Cel), T t → st.bad = false → (∀ k, a ≤ k → k < b → Rem q st k (g k r t ++ R k) ∧ HdC deep (R k)) → (f st).1 = t ∧ (f st).2.bad = false ∧ ∀ k, a ≤ k → k < b → Rem q (f st).2 k (R k)
theorem HdC.mono {deep deep' : Nat} {C : List Cel} (h : HdC deep C) (hd : deep ≤ deep') : HdC deep' C := fun c cs e => Nat.le_trans (h c cs e) hd
theorem HdC.deep {deep d : Nat} {C D : List Cel} (h : wR deep deep d C) : HdC deep (C ++ D) := by
 obtain ⟨c, cs, rfl, h2, _⟩ := h
 intro c' cs' e
 simp only [zLV, List.cons.injEq] at e
 rw [← e.1, h2]; exact zLQ _
theorem zF7 {q : BQ} {b o deep d : Nat} {rep : Int} {T : Tr → Prop} {g : Nat → Nat → Tr → List Cel} {f : As → Tr × As} {rest : Nat → List Cel} (hab : kb q.l o < b) (hd : rep = 2 → deep < lvR q.l o) (hd2 : deep ≤ lvR q.l o)
  (hf : FOk q (kb q.l o) b (lvR q.l o) T g f) (hg : ∀ k, kb q.l o ≤ k → k < b → ∀ r t, T t → wR (lvR q.l o) r d (g k r t)) (hr : ∀ k, kb q.l o ≤ k → k < b → HdC deep (rest k)) :
  ∀ (ts : List Tr) (n : Nat) (acc : List Tr) (st : As), (∀ t ∈ ts, T t) → (ts ≠ [] → rep = 2) → ts.length ≤ n → st.bad = false → (∀ k, kb q.l o ≤ k → k < b → Rem q st k (ts.flatMap (g k (lvR q.l o)) ++ rest k)) →
   (zAg f (goX q o rep) n (acc, st)).1 = acc ++ ts ∧ (zAg f (goX q o rep) n (acc, st)).2.bad = false ∧ ∀ k, kb q.l o ≤ k → k < b → Rem q (zAg f (goX q o rep) n (acc, st)).2 k (rest k)
 | [], n, acc, st, _, _, _, hb, h => by
  have hgo : goX q o rep st = false := by
   have h0 := h _ (zLQ _) hab
   have h1 := hr _ (zLQ _) hab
   rw [List.flatMap_nil, List.nil_append] at h0
   by_cases h2 : rep = 2
   ·have hlt := hd h2
    have : (yV q st (kb q.l o)).1 ≠ (lvR q.l o : Int) := by
     generalize rest (kb q.l o) = R at h0 h1
     cases R with
     | nil => rw [h0.none]; dsimp only; omega
     | cons c cs => rw [h0.cell]; have := h1 c cs rfl; dsimp only; omega
    simp [goX, this]
   ·simp [goX, h2]
  have e : zAg f (goX q o rep) n (acc, st) = (acc, st) := by
   cases n with
   | zero => rfl
   | succ n => simp [zAg, hgo]
  rw [e]
  exact ⟨by simp, hb, fun k h1 h2 => by simpa using h k h1 h2⟩
 | t :: ts, 0, acc, st, _, _, hn, _, _ => by simp at hn
 | t :: ts, n + 1, acc, st, hT, h2, hn, hb, h => by
  have hrep := h2 (by simp)
  have hgo : goX q o rep st = true := by
   have h0 := h _ (zLQ _) hab
   obtain ⟨c, cs, e, h3, _⟩ := hg _ (zLQ _) hab (lvR q.l o) t (hT t (by simp))
   rw [zLS, e, zLR, zLV] at h0
   simp [goX, hrep, h0.cell, h3, hb]
  simp only [zAg]
  rw [if_pos hgo]
  have h3 := hf t (lvR q.l o) st (fun k => ts.flatMap (g k (lvR q.l o)) ++ rest k) (hT t (by simp)) hb (fun k g1 g2 => ⟨by have := h k g1 g2; rwa [zLS, zLR] at this, by
   cases ts with
   | nil => simpa using (hr k g1 g2).mono hd2
   | cons u us =>
    rw [zLS, zLR]
    exact HdC.deep (hg k g1 g2 (lvR q.l o) u (hT u (by simp)))⟩)
  have h4 := zF7 hab hd hd2 hf hg hr ts n (acc ++ [(f st).1]) (f st).2 (fun t ht => hT t (by simp [ht])) (fun _ => hrep) (by simpa using hn) h3.2.1 h3.2.2
  refine ⟨?_, h4.2.1, h4.2.2⟩
  rw [h4.1, h3.1, zLR]; rfl
theorem zCN {α β : Type} {g : α → List β} : ∀ (ts : List α), (∀ t ∈ ts, g t ≠ []) → ts.length ≤ (ts.flatMap g).length
 | [], _ => by simp
 | t :: ts, h => by
  have h1 := zCN ts (fun u hu => h u (by simp [hu]))
  have h2 := zL0.2 (h t (by simp))
  rw [zLS, zLT, zLU]; omega
theorem zCW {q : BQ} {i n k : Nat} (hn : i + n ≤ q.l.length) (h1 : kb q.l i ≤ k) (h2 : k < kb q.l (i + n)) : i ≤ q.lf k ∧ q.lf k < i + n ∧ (flN q.l (q.lf k)).kind ≠ 0 := by
 obtain ⟨j, rfl⟩ : ∃ j, k = kb q.l i + j := ⟨k - kb q.l i, by omega⟩
 exact (zGR hn h2).2
theorem zJ5 {q : BQ} {o i r : Nat} {s : Sh} {f : As → Tr × As} {x : List Tr} {st : As} {rest : Nat → List Cel} (hx : Ix q.l (fun v => zK (par q.l) v) o s) (hn : o + s.size ≤ q.l.length) (hg : zR s) (hrep : qW s.rep x.length) (hok : ∀ t ∈ x, fsT s t)
  (hR : lvR q.l o = lvR q.l i + rmI s.rep) (hD : lvD q.l o = lvD q.l i + dmI s.rep) (hf : FOk q (kb q.l o) (kb q.l (o + s.size)) (lvR q.l o) (fsT s) (fun k r t => yK (q.lf k) o (lvD q.l o) (lvR q.l o) r s t) f) (hb : st.bad = false)
  (h : ∀ k, kb q.l o ≤ k → k < kb q.l (o + s.size) → Rem q st k (jO (q.lf k) o (lvD q.l i) (lvR q.l i) r s x ++ rest k) ∧ HdC (lvR q.l i) (rest k)) :
  (zBZ q o (wN q o s) s.rep f st).1 = x ∧ (zBZ q o (wN q o s) s.rep f st).2.bad = false ∧ ∀ k, kb q.l o ≤ k → k < kb q.l (o + s.size) → Rem q (zBZ q o (wN q o s) s.rep f st).2 k (rest k) := by
 have hab := zDA hg hx
 have ec : kb q.l o + wN q o s = kb q.l (o + s.size) := by unfold wN; omega
 have hdeep : ∀ k, kb q.l o ≤ k → k < kb q.l (o + s.size) → ∀ r t, fsT s t → wR (lvR q.l o) r (lvD q.l o) (yK (q.lf k) o (lvD q.l o) (lvR q.l o) r s t) := fun k g1 g2 r t ht => by
  obtain ⟨h1, h2, h3⟩ := zCW hn g1 g2
  exact wH h3 s o _ _ r t hx hg ht h1 h2
 cases x with
 | nil =>
  have h0 := (h _ (zLQ _) hab).1
  have hl := zCW hn (zLQ _) hab
  rw [zCh] at h0
  unfold xK at h0
  rw [if_pos ⟨hl.1, hl.2.1⟩] at h0
  have hdm : dmI s.rep = 1 := by unfold dmI; rcases zFe hrep with h | h <;> rw [h] <;> rfl
  unfold zBZ
  rw [if_pos (by rw [zLV] at h0; rw [h0.cell]; dsimp only; omega)]
  have h1 := zF1 (q := q) (g := rest) (wN q o s) (kb q.l o) st hb (fun k g1 g2 => by
   rw [ec] at g2
   have h2 := (h k g1 g2).1
   have hl := zCW hn g1 g2
   rw [zCh] at h2
   unfold xK at h2
   rw [if_pos ⟨hl.1, hl.2.1⟩] at h2
   exact ⟨_, rfl, h2⟩)
  rw [ec] at h1
  exact ⟨rfl, h1⟩
 | cons t ts =>
  have hfl : ∀ k, jO (q.lf k) o (lvD q.l i) (lvR q.l i) r s (t :: ts) = yK (q.lf k) o (lvD q.l o) (lvR q.l o) r s t ++ ts.flatMap (yK (q.lf k) o (lvD q.l o) (lvR q.l o) (lvR q.l o) s) := fun k => by
   unfold jO; rw [← hR, ← hD]; rfl
  have h2 : ts ≠ [] → s.rep = 2 := fun hne => zG5 hrep (by have := zL0.2 hne; simp only [zLU]; omega)
  have h0 := (h _ (zLQ _) hab).1
  obtain ⟨c, cs, e, h3, h4, _⟩ := hdeep _ (zLQ _) hab r t (hok t (by simp))
  have hc : ¬ (yV q st (kb q.l o)).2 < (lvD q.l o : Int) := by
   rw [hfl, e, zLR, zLV] at h0
   rw [h0.cell]; dsimp only; omega
  have hlen := h0.len
  rw [hfl, zLT, zLT] at hlen
  have hts := zCN (g := yK (q.lf (kb q.l o)) o (lvD q.l o) (lvR q.l o) (lvR q.l o) s) ts (fun u hu => (hdeep _ (zLQ _) hab _ u (hok u (by simp [hu]))).ne)
  unfold zBZ
  rw [if_neg hc]
  have h5 := hf t r st (fun k => ts.flatMap (yK (q.lf k) o (lvD q.l o) (lvR q.l o) (lvR q.l o) s) ++ rest k) (hok t (by simp)) hb (fun k g1 g2 => ⟨by
   have := (h k g1 g2).1
   rwa [hfl, zLR] at this, by
   have hh := (h k g1 g2).2
   cases ts with
   | nil => simpa using hh.mono (by omega)
   | cons u us =>
    rw [zLS, zLR]
    exact HdC.deep (hdeep k g1 g2 _ u (hok u (by simp)))⟩)
  have h6 := zF7 (q := q) (o := o) (deep := lvR q.l i) (rep := s.rep) (rest := rest) hab (fun hr => by rw [hR, hr]; show _ < _ + 1; omega) (by omega) hf hdeep (fun k g1 g2 => (h k g1 g2).2) ts (lenX q (kb q.l o) + 1) [(f st).1] (f st).2 (fun u hu => hok u (by simp [hu])) h2 (by omega) h5.2.1 h5.2.2
  exact ⟨by rw [h6.1, h5.1]; rfl, h6.2⟩
mutual
theorem zHb {q : BQ} : ∀ (s : Sh) (i r : Nat) (t : Tr) (st : As) (rest : Nat → List Cel), Ix q.l (fun v => zK (par q.l) v) i s → i + s.size ≤ q.l.length → zR s → fsT s t → st.bad = false →
  (∀ k, kb q.l i ≤ k → k < kb q.l (i + s.size) → Rem q st k (yK (q.lf k) i (lvD q.l i) (lvR q.l i) r s t ++ rest k) ∧ HdC (lvR q.l i) (rest k)) →
  (qX q s i st).1 = t ∧ (qX q s i st).2.bad = false ∧ ∀ k, kb q.l i ≤ k → k < kb q.l (i + s.size) → Rem q (qX q s i st).2 k (rest k)
 | .mk nm rp kd ks, i, r, t, st, rest, hx, hn, hg, ht, hb, h => by
  simp only [Ix] at hx
  simp only [zR] at hg
  have hkd : (flN q.l i).kind = kd := by unfold flN; rw [zLP, hx.1]; rfl
  rw [fsT] at ht
  simp only [qX]
  by_cases hk : kd = 0
  ·subst hk
   rw [if_neg (by decide)] at ht ⊢
   have e : kb q.l (i + 1) = kb q.l i := zBl hkd
   simp only [Sh.size] at h hn ⊢
   rw [show i + (1 + zC ks) = i + 1 + zC ks by omega] at h hn ⊢
   rw [← e] at h ⊢
   have h1 := zHr ks (i + 1) i r t.kids st rest hx.2.2 hn hg.2.2.2.2.2.2 ht.2.2 (fun j hj => by
    rw [← hx.2.1] at hj
    exact zCc hj) hb (fun k g1 g2 => by
    have := h k g1 g2
    simp only [yK] at this
    rwa [if_neg (by decide)] at this)
   refine ⟨?_, h1.2⟩
   rw [h1.1]
   obtain ⟨tn, ts, tk⟩ := t
   simp only [Tr.n, Tr.s, Tr.kids] at ht ⊢
   rw [ht.1, ht.2.1]
  ·rw [if_pos hk] at ht ⊢
   have hks := hg.2.2.2.2.1 hk
   subst hks
   simp only [Sh.size, zC, zL1] at h hn ⊢
   rw [jH, if_neg (by rw [hkd]; exact hk)] at h ⊢
   have hl := zJG (q := q) (i := i) (by omega) (by rw [hkd]; exact hk)
   have h1 := (h (kb q.l i) (zLQ _) (by omega)).1
   rw [hl] at h1
   simp only [yK] at h1
   rw [if_pos hk, if_pos trivial] at h1
   have h2 := zI0 (r := r) (d := lvD q.l i) (v := ⟨t.n, t.s⟩) (C := rest (kb q.l i)) h1 hb
   refine ⟨?_, h2.2.1, fun k g1 g2 => ?_⟩
   ·rw [h2.1]
    obtain ⟨tn, ts, tk⟩ := t
    simp only [Tr.n, Tr.s, Tr.kids] at ht ⊢
    rw [ht]
   ·obtain rfl : k = kb q.l i := by omega
    exact h2.2.2
theorem zHr {q : BQ} : ∀ (ks : List Sh) (o i r : Nat) (xs : List (List Tr)) (st : As) (rest : Nat → List Cel), IxL q.l (fun v => zK (par q.l) v) o ks → o + zC ks ≤ q.l.length → yG ks → fsK ks xs → (∀ j : Nat, (j : Int) ∈ yX o ks → ∃ hj : j < (par q.l).length, (par q.l)[j] = (i : Int)) → st.bad = false →
  (∀ k, kb q.l o ≤ k → k < kb q.l (o + zC ks) → Rem q st k (qB (q.lf k) o (lvD q.l i) (lvR q.l i) r ks xs ++ rest k) ∧ HdC (lvR q.l i) (rest k)) →
  (zAe q ks o st).1 = xs ∧ (zAe q ks o st).2.bad = false ∧ ∀ k, kb q.l o ≤ k → k < kb q.l (o + zC ks) → Rem q (zAe q ks o st).2 k (rest k)
 | [], o, i, r, xs, st, rest, _, _, _, hf, _, hb, _ => by
  rw [fsK] at hf
  subst hf
  exact ⟨by simp [zAe], by simpa [zAe] using hb, fun k h1 h2 => by simp only [zC, zL1] at h2; omega⟩
 | s :: ks, o, i, r, [], st, rest, _, _, _, hf, _, _, _ => by rw [fsK] at hf; exact hf.elim
 | s :: ks, o, i, r, x :: xs, st, rest, hx, hn, hg, hf, hp, hb, h => by
  simp only [IxL] at hx
  simp only [yG] at hg
  rw [fsK] at hf
  simp only [zC] at h hn ⊢
  rw [← Nat.add_assoc] at h hn ⊢
  have m1 := yS q.l (show o ≤ o + s.size by omega)
  have m2 := yS q.l (show o + s.size ≤ o + s.size + zC ks by omega)
  obtain ⟨hj, hpo⟩ := hp o (by simp [yX])
  have hfl : ∃ f, q.l[o]? = some f ∧ f.rep = s.rep := by
   obtain ⟨nm, rp, kd, kk⟩ := s
   have := hx.1
   simp only [Ix] at this
   exact ⟨_, this.1, rfl⟩
  obtain ⟨f, hf1, hf2⟩ := hfl
  have hst := zDs hj hpo hf1
  rw [hf2] at hst
  have h1 := zJ5 (q := q) (o := o) (i := i) (r := r) (s := s) (f := fun u => qX q s o u) (x := x) (st := st) (rest := rest) hx.1 (by omega) hg.1 hf.1 hf.2.1 hst.1 hst.2
   (fun t r' st' R ht hb' hR => zHb s o r' t st' R hx.1 (by omega) hg.1 ht hb' hR) hb (fun k g1 g2 => by
    have h2 := h k g1 (by omega)
    have hl := zCW (q := q) (i := o) (n := s.size) (by omega) g1 g2
    rwa [xH, wX ks (o + s.size) _ _ r xs (by omega), List.append_nil] at h2)
  have ec : kb q.l o + wN q o s = kb q.l (o + s.size) := by unfold wN; omega
  have hbd : Bd q (kb q.l o) (kb q.l (o + s.size)) st (zBZ q o (wN q o s) s.rep (fun u => qX q s o u) st).2 := by
   have hb := zHp (q := q) (o := o) (n := wN q o s) (rep := s.rep) (f := fun u => qX q s o u) (st := st) (fun u hu => by rw [ec] at hu ⊢; exact zC2 s o u hx.1 hg.1 hu) (fun k g1 g2 => by
    have := (h k g1 (by omega)).1.len; omega)
   rwa [ec] at hb
  have h2 := zHr ks (o + s.size) i r xs (zBZ q o (wN q o s) s.rep (fun u => qX q s o u) st).2 rest hx.2 hn hg.2 hf.2.2 (fun j hj => hp j (by simp [yX, hj])) h1.2.1 (fun k g1 g2 => by
   have h3 := h k (by omega) g2
   have hl := zCW (q := q) (i := o + s.size) (n := zC ks) hn g1 g2
   rw [xH, zAX s o _ _ r x (by omega), List.nil_append] at h3
   have ho := hbd.out k (by omega)
   exact ⟨h3.1.same ho.1 ho.2, h3.2⟩)
  simp only [zAe]
  refine ⟨by rw [h1.1, h2.1], h2.2.1, fun k g1 g2 => ?_⟩
  by_cases hk : k < kb q.l (o + s.size)
  ·have hb2 := zDx ks (o + s.size) (zBZ q o (wN q o s) s.rep (fun u => qX q s o u) st).2 hx.2 hg.2 (hbd.lowOut (fun j g1 g2 => by
    have := (h j (by omega) g2).1.len; omega) (.inl (zLQ _)))
   have ho := hb2.out k (by omega)
   exact (h1.2.2 k g1 hk).same ho.1 ho.2
  ·exact h2.2.2 k (by omega) g2
end
theorem zFX {q : BQ} {sh : Sh} (hS : Sch q.l sh) (hr0 : sh.rep = 0) : ∀ (x acc : List Tr) (st : As), (∀ t ∈ x, fsT sh t) → st.bad = false → (∀ k, k < q.m → Rem q st k (zS (q.lf k) sh x)) → (wO q sh x.length (acc, st)).1 = acc ++ x ∧ (wO q sh x.length (acc, st)).2.bad = false
 | [], acc, st, _, hb, _ => by simp [wO, hb]
 | t :: x, acc, st, hf, hb, h => by
  have e0 : kb q.l 0 = 0 := by simp [kb, zG]
  have e1 : kb q.l (0 + sh.size) = q.m := by rw [Nat.zero_add, ← hS.len]; exact zBN q.l
  have hlv := zDi hS hr0
  have hsz : 0 + sh.size ≤ q.l.length := by rw [hS.len]; omega
  have h1 := zHb sh 0 0 t st (fun k => zS (q.lf k) sh x) hS.ix hsz hS.good (hf t (by simp)) hb (fun k g1 g2 => by
   have hl := zCW (q := q) (i := 0) (n := sh.size) hsz g1 g2
   rw [e1] at g2
   have h2 := h k g2
   rw [hlv.1, hlv.2]
   refine ⟨by unfold zS at h2 ⊢; rwa [zLS] at h2, ?_⟩
   cases x with
   | nil => intro c cs e; simp [zS] at e
   | cons u us =>
    have hd := wH hl.2.2 sh 0 0 0 0 u hS.ix hS.good (hf u (by simp)) hl.1 hl.2.1
    unfold zS
    rw [zLS]
    exact HdC.deep hd)
  rw [e0, e1] at h1
  have hb' : ¬ (acc, st).2.bad = true := by simp [hb]
  simp only [zLU, wO]
  rw [if_neg hb']
  have h2 := zFX hS hr0 x (acc ++ [(qX q sh 0 st).1]) (qX q sh 0 st).2 (fun u hu => hf u (by simp [hu])) h1.2.1 (fun k hk => h1.2.2 k (zLX _) hk)
  refine ⟨?_, h2.2⟩
  rw [h2.1, h1.1, zLR]; rfl
def As0 : As := ⟨fun _ => 0, fun _ => 0, false⟩
theorem zDj {q : BQ} {sh : Sh} {n : Nat} {x : List Tr} (hS : Sch q.l sh) (hr0 : sh.rep = 0) (h : jA q.l sh q.L n x) : wO q sh n ([], As0) = (x, (wO q sh n ([], As0)).2) ∧ (wO q sh n ([], As0)).2.bad = false := by
 have hc := h.cels hS hr0
 have hl : x.length = n := by have := h.2.2; omega
 have := zFX hS hr0 x [] As0 (h.fs hS) rfl (fun k hk => ⟨[], (hc k hk).1, rfl, rfl⟩)
 rw [hl] at this
 exact ⟨Prod.ext (by simpa using this.1) rfl, this.2⟩
theorem zHZ {q : BQ} {sh : Sh} {p : List Tr × As} (h : p.2.bad = true) : ∀ (n : Nat), wO q sh n p = p
  | 0 => rfl
  | n + 1 => by simp [wO, h]
theorem zGG {q : BQ} {sh : Sh} {p : List Tr × As} (h : p.2.bad = false) (n : Nat) : wO q sh (n + 1) p = wO q sh n (p.1 ++ [(qX q sh 0 p.2).1], (qX q sh 0 p.2).2) := by simp [wO, h]
theorem zKh {l : List Fl} {sh : Sh} {L : List Cl} {x : List Tr} (h0 : yM l sh x = 0) (hm : L.length = (zG l l.length).length) (h : ∀ (k : Nat) (h1 : k < (xL l sh x).length) (h2 : k < L.length), (xL l sh x)[k] = L[k]) : xL l sh x = L := by
  have hl : (xL l sh x).length = L.length := by rw [xL, if_pos h0, zAb, hm]
  exact List.ext_getElem hl h
set_option maxHeartbeats 3000000 in
set_option maxRecDepth 100000 in
theorem zEZ {l : List Fl} {sh : Sh} (hS : Sch l sh) (hh : hgt sh ≤ 5) (hrp : ∀ x ∈ l, x.rep = 0 ∨ x.rep = 1 ∨ x.rep = 2) (hr0 : sh.rep = 0) (sa ca : Option Addr) (sc m cc : Nat) (L : List Cl) (xs : List Value) (n : Int) (w : World)
    (hs : Sl (fun b => b < w.heap.size) w 4 sa l.length sc (fls l)) (hc : xE w ca m cc L xs) (hlen : ∀ X ∈ L, X.d.length ≤ 1000000) (hstr : ∀ X ∈ L, ∀ v ∈ X.v, v.s.size ≤ maxLen) :
    Calls Try.prog 18 #[.slice sa l.length sc, .slice ca m cc, .int .i64 n] w (zCT l sh L n w) := by
  obtain ⟨it, hit, hz0t, hz1t, hz2t⟩ := info_parts zCm
  obtain rfl := hc.n
  have hn : l.length ≤ 1000 := by have := hS.len; have := hS.size; omega
  have hml := zBD hS
  have hLm := Nat.le_trans hc.sl.le hc.sl.max
  unfold maxLen at hLm
  have HS := zH hs; have HC := zH hc; have HSC := zH hS; have HRP := zH hrp; have HR0 := zH hr0; have HLEN := zH hlen; have HSTR := zH hstr; have HH := zH hh
  clear hs hc hS hrp hr0 hlen hstr hh
  go_enter Try.func18, Try.ntmps18
  go_wp2_with fail
  refine (zIZ sa sc l w HS.out hn HSC.out.kids).mono ?_
  rintro e w1 ⟨aL, cL, rfl, _, hb1⟩
  have HB1 := zH hb1
  clear hb1
  by_cases hA : n < 0 ∨ 200 < n ∨ L.length ≠ (zG l l.length).length
  · have HQ := zH (zCT.arg HB1.out hA (sh := sh))
    by_cases h0 : n < 0
    · clear hA
      go_wp2_with fail
      go_ret2
      exact HQ.out
    · by_cases h2 : 200 < n
      · clear hA
        go_wp2_with fail
        go_ret2
        exact HQ.out
      · have h3 : ((L.length : Int) != ((zG l l.length).length : Int)) = true := by
          have : L.length ≠ (zG l l.length).length := by rcases hA with h | h | h; exact absurd h h0; exact absurd h h2; exact h
          simp; omega
        clear hA
        generalize (zG l l.length).length = M at *
        generalize L.length = N at *
        go_wp2_with fail
        go_ret2
        exact HQ.out
  have hM : L.length = (zG l l.length).length := by omega
  have h3 : ((L.length : Int) != ((zG l l.length).length : Int)) = false := by simp [hM]
  obtain ⟨N, rfl⟩ : ∃ N : Nat, n = (N : Int) := ⟨n.toNat, by omega⟩
  have hN : N ≤ 200 := by omega
  have h0 : ¬ (N : Int) < 0 := by omega
  have h2 : ¬ (200 : Int) < (N : Int) := by omega
  have HA := zH hA; have HM := zH hM
  clear hA hM
  go_wp2_with fail
  refine (zGH sa ca sc L.length cc l L xs w1 (slb HS.out HB1.out) (HC.out.below HB1.out) HM.out hn HSC.out.kids HRP.out (by have := HSC.out.len; have := HSC.out.size; have := HSC.out.leafs_pos; have := yW (l := l) (m := l.length); omega)).mono ?_
  rintro e w2 ⟨q, rfl, hql, hqL, hrs, hb2, hge⟩
  subst hql
  subst hqL
  have HRS := zH hrs; have HGE := zH hge; have HB2 := zH (bt HB1.out hb2)
  have HW2 := zH hb2.size
  have HRX : Hid (RX q) := zH ⟨hn, HM.out, fun k => by
      unfold BQ.X
      by_cases hk : k < q.b.L.length
      · rw [zLP, zLW hk]; exact HLEN.out _ (List.getElem_mem hk)
      · rw [zLP, zLY (by omega)]; simp, fun k v hv => by
      unfold BQ.X at hv
      by_cases hk : k < q.b.L.length
      · rw [zLP, zLW hk] at hv; exact HSTR.out _ (List.getElem_mem hk) v hv
      · rw [zLP, zLY (by omega)] at hv; simp at hv⟩
  have HB0 := zH HRS.out.B0
  have HNW := zH (fun (k : Nat) (hk : w2.heap.size ≤ k) => HRS.out.new hk)
  clear hrs hge hb2 h3 h0 h2
  have HE0 : Hid (kb q.b.l 0 = 0 ∧ kb q.b.l (0 + sh.size) = q.b.m) := zH ⟨by simp [kb, zG], by rw [Nat.zero_add, ← HSC.out.len]; exact zBN q.b.l⟩
  go_wp2_with fail
  go_loopw [10, 11] (fun ov iv wr => ∃ (i : Nat) (x : List Tr) (st : As) (aO : Option Addr) (cO : Nat) (ys : List Value), ov = .slice aO i cO ∧ iv = .int .i64 (i : Int) ∧ i ≤ N ∧ Hid (wO q.b sh N ([], As0) = wO q.b sh (N - i) (x, st)) ∧ Hid (st.bad = false → Low q.b 0 q.b.m st) ∧ Hid (jP 57 w2.heap.size wr aO i cO x ys) ∧ Hid (RS q wr st) ∧ Hid (Chg q.ch w2 wr)) (fun _ iv _ => N - (intOf iv).toNat)
  case atStart => exact ⟨0, [], As0, none, 0, [], rfl, rfl, zLX _, zH rfl, zH (fun _ k _ _ => zLX _), zH (jP.nil _ _ _), HRS, zH (Chg.refl _ _)⟩
  case round =>
    clear HRS
    obtain ⟨i, x, st, aO, cO, ys, rfl, rfl, hi, HE, HLO, HOR, HSQ, HCQ⟩ := hrel
    have q8 := HSQ.out.bx.2.2.2.2.2.2.2.2
    have hszr := HCQ.out.size
    by_cases hgo : i < N ∧ st.bad = false
    · obtain ⟨hiN, hbad⟩ := hgo
      rw [hbad] at q8
      have HE2 : Hid (wO q.b sh N ([], As0) = wO q.b sh (N - (i + 1)) (x ++ [(qX q.b sh 0 st).1], (qX q.b sh 0 st).2)) := zH (by
        rw [HE.out, show N - i = (N - (i + 1)) + 1 by omega]; exact zGG hbad _)
      have HLW := zH (HLO.out hbad)
      have HBD := zH (zC2 sh 0 st HSC.out.ix HSC.out.good (by rw [HE0.out.1, HE0.out.2]; exact HLW.out))
      clear hbad
      go_wp2_with fail
      refine (zDe q HRX.out sh.size sh (zLQ _) 0 st wr HSC.out.ix (by rw [HSC.out.len]; omega) HSC.out.good HSQ.out (by rw [HE0.out.1, HE0.out.2]; exact HLW.out)).mono ?_
      generalize qX q.b sh 0 st = r at *
      rintro e w4 ⟨a4, m4, rfl, ht4, hs4, hc4⟩
      have hsz4 := hc4.size
      have hNEW := HNW.out
      have hor2 := HOR.out.chg hc4 (fun b hb => hNEW b hb)
      have HOR2 := zH (hor2.chg ((Chg.refl (fun _ => False) w4).alloc (.cells #[.int .i64 r.1.n, .string r.1.s, .slice a4 r.1.kids.length m4] 57)) (fun _ _ h => h))
      have hlt2 := HOR.out.lt
      have HT2 := zH (TrG.go (ok' := fun b => w2.heap.size ≤ b ∧ ¬ blk aO b) ((Chg.refl (fun _ => False) w4).alloc (.cells #[.int .i64 r.1.n, .string r.1.s, .slice a4 r.1.kids.length m4] 57)) (fun b _ hb => ⟨fun h => h, by omega, fun h => by have := hlt2 b h; omega⟩) ht4)
      have HOO := zH hor2.own
      have HS4 := zH (hs4.below (ba (b0 w4) (.cells #[.int .i64 r.1.n, .string r.1.s, .slice a4 r.1.kids.length m4] 57)))
      have HC4 := zH (((HCQ.out.trans hc4 (fun _ _ h => h))).alloc (.cells #[.int .i64 r.1.n, .string r.1.s, .slice a4 r.1.kids.length m4] 57))
      have HNEW := zH hNEW
      clear ht4 hs4 hc4 hor2 hlt2 q8 hNEW
      have tok1 : True := trivial
      go_wp2_with (first
        | (at_builtin; have _t := tok1; clear tok1; clear _t; refine zI (B := w2.heap.size) rfl _ _ _ _ rfl it (.agg #[.int .i64 0, .string ByteArray.empty, .slice none 0 0]) 48 Try.underlying28 hit hz0t hz1t hz2t rfl rfl (HOO.out.alloc _) _ rfl _ _ (zP (e' := 57) Try.underlying28 w4 #[.int .i64 r.1.n, .string r.1.s, .slice a4 r.1.kids.length m4] 57 1 3 rfl (by simp [Value.oneCell'])) (by simp only [maxLen]; omega) (by omega) (by first | omega | (simp; omega) | simp) ?_; intro a5 cap5 w5 ho5 hc5 hn5); (have HOR5 := zH (jP.push HOR2.out HT2.out ho5 hc5 hn5)); (have HC5 := zH hc5); clear ho5 hc5 hn5
        | fail)
      go_roundw
      case rel => exact ⟨i + 1, x ++ [r.1], r.2, a5, cap5, _, rfl, by go_num, by omega, HE2, zH (fun hb => by have := HBD.out.low hb; rw [HE0.out.1, HE0.out.2] at this; exact this), HOR5, zH (HS4.out.row5 HB0.out HC5.out (fun k h => h.2.1) HNEW.out), zH (HC4.out.trans HC5.out (fun k hk h => by have := h.2.1; omega))⟩
      case measure => simp [intOf]; omega
    · have HEE : Hid (wO q.b sh N ([], As0) = (x, st)) := zH (by
        rw [HE.out]
        by_cases hb : st.bad = true
        · exact zHZ hb _
        · have : N - i = 0 := by have : ¬ i < N := fun h => hgo ⟨h, by simpa using hb⟩
                                 omega
          rw [this]; rfl)
      have hchg : ∀ b, b < w.heap.size → ¬ q.ch b := fun b hb h => by have := HGE.out b h; have := HB1.out.size; omega
      have hBr : Below w.heap.size w wr := Chg.bt HB2.out HCQ.out (fun b hb h => hchg b hb h)
      have HBR := zH hBr
      have HFIN : Hid ((wO q.b sh N ([], As0)).2.bad = true → ∀ x0, ¬ jA q.b.l sh q.b.L (N : Int) x0) := zH (fun hb x0 hg => by
        have := (zDj HSC.out HR0.out hg).2
        rw [hb] at this; cases this)
      have HGO : Hid (∀ x0, jA q.b.l sh q.b.L (N : Int) x0 → x0 = x) := zH (fun x0 hg => by
        have := (zDj HSC.out HR0.out hg).1
        rw [HEE.out] at this
        exact (congrArg Prod.fst this).symm)
      clear hBr hchg
      by_cases hbad : st.bad = true
      · have HQ := zH (zCT.bad (sh := sh) HBR.out HA.out (HFIN.out (by rw [HEE.out]; exact hbad)))
        rw [hbad] at q8
        clear hbad hgo
        by_cases hiN : i < N
        · go_wp2_with fail
          go_ret2
          exact HQ.out
        · go_wp2_with fail
          go_ret2
          exact HQ.out
      have hbf : st.bad = false := by simpa using hbad
      have hiN : i = N := by have : ¬ i < N := fun h => hgo ⟨h, hbf⟩
                             omega
      rw [hbf] at q8
      have hl := HOR.out.len
      subst hl
      have HLN := zH hiN
      have hnlt : ¬ (x.length : Int) < (N : Int) := by omega
      have HSL := HOR.out.sl
      have HSX := zH HSL
      have HCOL := zH ((zHI HSC.out HH.out HR0.out HRP.out x sa aO sc cO ys wr (slb HS.out HBR.out) (HSL.1.mono (fun b hb _ => hb) (by decide)) (zHk HSL.2)).mono (fun e w' h => CQ.ofR h))
      clear hbad hbf hgo hiN HSL
      go_wp2_with fail
      refine HCOL.out.mono ?_
      rintro e w5 ⟨ac, nc, capc, xc, rfl, hcol, hb5⟩
      have HCC := zH hcol
      have HB5 := zH (bt HBR.out hb5)
      have HS5 := zH ((HSX.out.1.below hb5).mono (ok' := fun b => w.heap.size ≤ b) (fun b _ h => by have h' : w2.heap.size ≤ b := h; have := HB2.out.size; omega) (by decide))
      have HR5 := zH (HSX.out.2.go (S := fun _ => False) (ok' := fun b => w.heap.size ≤ b) (chF hb5) (fun b _ h => ⟨fun h => h, by have h' : w2.heap.size ≤ b := h; have := HB2.out.size; omega⟩))
      clear hcol hb5 HCOL q8 HOR HSQ HCQ
      by_cases hce : yM q.b.l sh x = 0
      rotate_left
      · have HQ := zH (zCT.bad (sh := sh) HB5.out HA.out (fun x0 hg => by
          have := HGO.out x0 hg
          subst this
          exact hce hg.1))
        have hcb : (yM q.b.l sh x != 0) = true := by simpa using hce
        generalize yM q.b.l sh x = ce at *
        clear hce
        go_wp2_with fail
        go_ret2
        exact HQ.out
      have hcb : (yM q.b.l sh x != 0) = false := by simp [hce]
      have HCE := zH hce
      have hcl : (xL q.b.l sh x).length = q.b.L.length := by rw [xL, if_pos hce, zAb]; exact HM.out.symm
      have hcn := HCC.out.n
      rw [hcl] at hcn
      subst hcn
      have HCL := zH hcl
      rw [hce]
      clear hce hcl hcb
      go_wp2_with fail
      go_loopw [14] (fun iv wq => ∃ j : Nat, iv = .int .i64 (j : Int) ∧ j ≤ q.b.L.length ∧ Hid (∀ (k : Nat) (h1 : k < (xL q.b.l sh x).length) (h2 : k < q.b.L.length), k < j → (xL q.b.l sh x)[k] = q.b.L[k]) ∧ Hid (Below w5.heap.size w5 wq)) (fun iv _ => q.b.L.length - (intOf iv).toNat)
      case atStart => exact ⟨0, rfl, zLX _, zH (fun k _ _ h => by omega), zH (b0 _)⟩
      case round =>
        obtain ⟨j, rfl, hj, HEQ, HBQ⟩ := hrel
        by_cases hjl : j < q.b.L.length
        · have hjc : j < (xL q.b.l sh x).length := by rw [HCL.out]; exact hjl
          obtain ⟨xb, xo, a0, c0, a1, c1, a2, c2, rfl, x0, x1, x2, hxc⟩ := (HCC.out.below HBQ.out).get j hjc
          obtain ⟨yb, yo, g0, d0, g1, d1, g2, d2, rfl, y0, y1, y2, hyc⟩ := (HC.out.below (bt HB5.out HBQ.out)).get j hjl
          have HZ := zH (zLZ x0 (zLZ x1 (zLZ x2 (zLZ y0 (zLZ y1 y2)))))
          have HSAME := zH (zJS _ _ a0 a1 a2 g0 g1 g2 c0 c1 c2 d0 d1 d2 wr.drew (hxc.below (b0 wr).drew) (hyc.below (b0 wr).drew))
          have hj1 : (j : Int) < (q.b.L.length : Int) := by omega
          have HNX : Hid ((xL q.b.l sh x)[j] = q.b.L[j] → ∀ (k : Nat) (h1 : k < (xL q.b.l sh x).length) (h2 : k < q.b.L.length), k < j + 1 → (xL q.b.l sh x)[k] = q.b.L[k]) := zH (fun he k h1 h2 hk => by
            by_cases e : k = j
            · subst e; exact he
            · exact HEQ.out k h1 h2 (by omega))
          have HNG : Hid ((xL q.b.l sh x)[j] ≠ q.b.L[j] → ∀ x0, ¬ jA q.b.l sh q.b.L (N : Int) x0) := zH (fun hne x0 hg => by
            have := HGO.out x0 hg
            subst this
            exact hne (by simp only [hg.2.1]))
          generalize (xL q.b.l sh x)[j] = X at *
          generalize q.b.L[j] = Y at *
          generalize X.r.length = n0 at *
          generalize X.d.length = n1 at *
          generalize X.v.length = n2 at *
          generalize Y.r.length = m0 at *
          generalize Y.d.length = m1 at *
          generalize Y.v.length = m2 at *
          clear x0 x1 x2 y0 y1 y2 hxc hyc
          go_wp2_with fail
          refine zF (fun w' => w'.cell? ⟨xb, xo + j * 3, none⟩ = some (.slice a0 n0 c0) ∧ w'.cell? ⟨xb, xo + j * 3 + 1, none⟩ = some (.slice a1 n1 c1) ∧ w'.cell? ⟨xb, xo + j * 3 + 2, none⟩ = some (.slice a2 n2 c2) ∧ w'.cell? ⟨yb, yo + j * 3, none⟩ = some (.slice g0 m0 d0) ∧ w'.cell? ⟨yb, yo + j * 3 + 1, none⟩ = some (.slice g1 m1 d1) ∧ w'.cell? ⟨yb, yo + j * 3 + 2, none⟩ = some (.slice g2 m2 d2)) [] (by kernel_rfl) ?g73rgS (fun hHeld => ?g73rgR)
          case g73rgS => (try dsimp only); (first | exact HZ.out | exact ⟨cb hb8 HZ.out.1, cb hb8 HZ.out.2.1, cb hb8 HZ.out.2.2.1, cb hb8 HZ.out.2.2.2.1, cb hb8 HZ.out.2.2.2.2.1, cb hb8 HZ.out.2.2.2.2.2⟩)
          try dsimp only at hHeld
          refine zD [0, 1, 2, 3, 4, 5, 6, 7] 2 (by kernel_rfl) (fun _ _ _ _ _ h => h) (by assumption) ?_
          iterate 8 ((apply YA.take rfl (by rfl); case hy => rintro w ⟨s0, s1, s2, s3, s4, s5⟩; go_simp; try with_reducible rfl); try simp only [pD])
          refine YA.nil ?_
          refine zB [8] (by kernel_rfl) (by simp) ?_
          refine zA.con 8 rfl (fun K hK => ?g73ro1) ?g73rm1
          case g73rm1 => exact zA.nil
          go_simp; refine HSAME.out.mono ?_; rintro e w8 ⟨t, rfl, ht, hb8⟩; dsimp only
          refine hK.out _ _ ?g73rs1 (fun hHeld => ?g73rt1)
          case g73rs1 => (try dsimp only); (first | exact HZ.out | exact ⟨cb hb8 HZ.out.1, cb hb8 HZ.out.2.1, cb hb8 HZ.out.2.2.1, cb hb8 HZ.out.2.2.2.1, cb hb8 HZ.out.2.2.2.2.1, cb hb8 HZ.out.2.2.2.2.2⟩)
          try dsimp only at hHeld
          clear hK K
          try simp only [pD]
          refine zD [9] 0 (by kernel_rfl) (fun _ _ _ _ _ h => h) (by assumption) ?_
          iterate 1 ((apply YA.take rfl (by rfl); case hy => rintro w ⟨s0, s1, s2, s3, s4, s5⟩; go_simp; try with_reducible rfl); try simp only [pD])
          refine YA.nil ?_
          refine zE (by kernel_rfl) ?_
          clear hHeld
          have HT := zH ht
          have HB8 := zH (bt HBQ.out (bt (b0 wr).drew hb8))
          clear ht hb8
          cases t with
          | true =>
            have HX := zH (HT.out.1 (by first | rfl | trivial))
            go_wp2_with fail
            go_roundw
            case rel => exact ⟨j + 1, by go_num, by omega, zH (HNX.out HX.out), HB8⟩
            case measure => simp [intOf]; omega
          | false =>
            have HX := zH (zCT.bad (sh := sh) (bt HB5.out HB8.out) HA.out (HNG.out (fun h => by have := HT.out.2 h; first | exact this | cases this)))
            go_wp2_with fail
            go_ret2
            exact HX.out
        · obtain rfl : j = q.b.L.length := by omega
          have HG : Hid (jA q.b.l sh q.b.L (N : Int) x) := zH ⟨HCE.out, zKh HCE.out HM.out (fun k h1 h2 => HEQ.out k h1 h2 h2), by have := HLN.out; omega⟩
          go_wp2_with fail
          go_ret2
          exact ⟨x, aO, cO, ys, 0, rfl, HS5.out.below HBQ.out, HR5.out.go (S := fun _ => False) (chF HBQ.out) (fun b _ h => ⟨fun h => h, h⟩), bt HB5.out HBQ.out, fun h => absurd h HA.out, fun _ => .inl ⟨rfl, HG.out, fun x0 hg => HGO.out x0 hg⟩⟩
end Go.Proofs.Ytjbkjfefjhbolaa
