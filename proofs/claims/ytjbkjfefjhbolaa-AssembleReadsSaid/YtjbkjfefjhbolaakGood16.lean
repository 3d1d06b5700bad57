import Derived.Test.YtjbkjfefjhbolaakRecs16
import Derived.Test.YtjbkjfefjhbolaakColR14
set_option linter.all false
open Decidable renaming byContradiction → zLP
open List renaming mem_singleton → zLQ, mem_flatMap → zLR
namespace Go.Proofs.Ytjbkjfefjhbolaa
open Go.RowKit Go.Shr
theorem zF5 {g : Nat → Tr → List Cel} {r deep : Nat} {e : List Cel} {c : Cel} : ∀ (x : List Tr), c ∈ zB6 g r deep e x → (x = [] ∧ c ∈ e) ∨ ∃ r', ∃ t ∈ x, c ∈ g r' t
 | [], h => .inl ⟨rfl, h⟩
 | t :: ts, h => by
  simp only [zB6] at h
  rcases List.mem_append.1 h with h | h
  ·exact .inr ⟨r, t, by simp, h⟩
  ·obtain ⟨u, hu, hc⟩ := zLR.1 h
   exact .inr ⟨deep, u, by simp [hu], hc⟩
mutual
theorem zC3 {l : List Fl} {lf : Nat} (hlf : lf < (par l).length) (hkl : (flN l lf).kind ≠ 0) : ∀ (s : Sh) (i r : Nat) (t : Tr), Ix l (fun v => zK (par l) v) i s → i + s.size ≤ (par l).length → zR s → fsT s t → i ≤ lf → lf < i + s.size → ∀ c ∈ yK lf i (lvD l i) (lvR l i) r s t, (c.d = lvD l lf ↔ c.v.isSome = true)
 | .mk nm rp kd ks, i, r, t, hx, hn, hg, hok, h1, h2 => by
  simp only [zR] at hg
  simp only [Ix] at hx
  simp only [yK]
  rw [fsT] at hok
  by_cases hk : kd = 0
  ·subst hk
   rw [if_neg (by decide)] at hok ⊢
   simp only [Sh.size] at h2 hn
   have hne : lf ≠ i := by
    intro e
    rw [e] at hkl
    exact hkl (by simp [flN, List.getD, hx.1])
   refine zDy hlf hkl ks (i + 1) i r t.kids hx.2.2 (by omega) hg.2.2.2.2.2.2 hok.2.2 (fun j hj => ?_) (by omega) (by omega)
   rw [← hx.2.1] at hj
   exact zCc hj
  ·rw [if_pos hk]
   have hks := hg.2.2.2.2.1 hk
   subst hks
   simp only [Sh.size, zC] at h2
   have hi : i = lf := by omega
   subst hi
   rw [if_pos rfl]
   intro c hc
   rw [zLQ.1 hc]; simp
theorem zDy {l : List Fl} {lf : Nat} (hlf : lf < (par l).length) (hkl : (flN l lf).kind ≠ 0) : ∀ (ks : List Sh) (o i r : Nat) (xs : List (List Tr)), IxL l (fun v => zK (par l) v) o ks → o + zC ks ≤ (par l).length → yG ks → fsK ks xs →
  (∀ j : Nat, (j : Int) ∈ yX o ks → ∃ hj : j < (par l).length, (par l)[j] = (i : Int)) → o ≤ lf → lf < o + zC ks → ∀ c ∈ qB lf o (lvD l i) (lvR l i) r ks xs, (c.d = lvD l lf ↔ c.v.isSome = true)
 | [], o, i, r, xs, _, _, _, _, _, h1, h2 => by simp only [zC] at h2; omega
 | s :: q, o, i, r, [], _, _, _, hok, _, _, _ => by rw [fsK] at hok; exact hok.elim
 | s :: q, o, i, r, x :: xs, hx, hn, hg, hok, hp, h1, h2 => by
  simp only [yG] at hg
  simp only [IxL] at hx
  simp only [zC] at h2 hn
  rw [fsK] at hok
  rw [xH]
  by_cases hr : lf < o + s.size
  ·rw [wX q (o + s.size) _ _ r xs (by omega), List.append_nil]
   obtain ⟨hj, hpo⟩ := hp o (by simp [yX])
   have hf : ∃ f, l[o]? = some f ∧ f.rep = s.rep := by
    obtain ⟨nm, rp, kd, kk⟩ := s
    have := hx.1
    simp only [Ix] at this
    exact ⟨_, this.1, rfl⟩
   obtain ⟨f, hf1, hf2⟩ := hf
   have hst := zDs hj hpo hf1
   rw [hf2] at hst
   have hm := zDU s o hx.1 (by omega) lf h1 hr
   have hle := zKX hm
   unfold jO
   rw [← hst.1, ← hst.2]
   intro c hc
   rcases zF5 x hc with ⟨he, hc⟩ | ⟨r', t, ht, hc⟩
   ·subst he
    have hrep := zFe hok.1
    have hdm : dmI s.rep = 1 := by unfold dmI; rcases hrep with h | h <;> rw [h] <;> rfl
    unfold xK at hc
    rw [if_pos ⟨h1, hr⟩] at hc
    rw [zLQ.1 hc]
    dsimp only
    exact ⟨fun h => by omega, fun h => by cases h⟩
   ·exact zC3 hlf hkl s o r' t hx.1 (by omega) hg.1 (hok.2.1 t ht) h1 hr c hc
  ·rw [zAX s o _ _ r x (by omega), List.nil_append]
   exact zDy hlf hkl q (o + s.size) i r xs hx.2 (by omega) hg.2 hok.2.2 (fun j hj => hp j (by simp [yX, hj])) (by omega) (by omega)
end
mutual
def ssT : Sh → Tr → Prop
 | .mk _ _ kd ks, t => if kd ≠ 0 then t.s.size ≤ 100 else ssK ks t.kids
def ssK : List Sh → List (List Tr) → Prop
 | [], _ => True
 | _ :: _, [] => True
 | s :: r, x :: xs => (∀ t ∈ x, ssT s t) ∧ ssK r xs
end
theorem zFH {kind : Int} {t : Tr} (h1 : 1 ≤ kind) (h4 : kind ≤ 4) (h : jM kind t = 0) : t.s.size ≤ 100 := by
 unfold jM at h
 have hs := zE6 t.s
 by_cases he : t.s.size ≤ 100
 ·exact he
 ·have hne : t.s.toList ≠ [] := fun e => by rw [e] at hs; simp at hs; omega
  exfalso
  split at h
  ·exact absurd h (by decide)
  ·rename_i hn
   have h3 : kind = 4 := zLP fun hk => hn (.inr (.inr ⟨hk, hne⟩))
   rw [h3] at h
   simp at h
   omega
mutual
theorem zEh {l : List Fl} {K : Int → List Int} : ∀ (s : Sh) (i : Nat) (t : Tr), Ix l K i s → zR s → yL l K t i = 0 → ssT s t
 | .mk nm rp kd ks, i, t, hi, hg, ht => by
  simp only [Ix] at hi
  simp only [zR] at hg
  obtain ⟨h1, h2, h3⟩ := hi
  have hf : jX l (i : Int) = ⟨nm, rp, kd, ks.length⟩ := by simp [jX, h1]
  rw [zBg, hf] at ht
  dsimp only at ht
  rw [ssT]
  by_cases hk : kd = 0
  ·subst hk
   rw [if_neg (fun h => h rfl)] at ht ⊢
   split at ht
   ·exact absurd ht (by decide)
   ·rename_i hn
    rw [h2] at ht hn
    have hn3 : t.kids.length = (yX (i + 1) ks).length := zLP fun h => hn (.inr (.inr h))
    rw [jU] at hn3
    exact zC7 ks (i + 1) t.kids h3 hg.2.2.2.2.2.2 hn3 ht
  ·rw [if_pos hk] at ht ⊢
   exact zFH (by omega) hg.2.2.2.1 ht
theorem zC7 {l : List Fl} {K : Int → List Int} : ∀ (ks : List Sh) (i : Nat) (xs : List (List Tr)), IxL l K i ks → yG ks → xs.length = ks.length → zAi l K xs (yX i ks) = 0 → ssK ks xs
 | [], i, xs, _, _, hl, _ => by rw [ssK]; trivial
 | s :: r, i, [], _, _, hl, _ => by simp at hl
 | s :: r, i, x :: xs, hi, hg, hl, h => by
  simp only [IxL] at hi
  simp only [yG] at hg
  rw [zAp] at h
  split at h
  ·rename_i hn; exact absurd h hn
  rename_i hn
  have ha : qQ l K x (i : Int) = 0 := zLP hn
  unfold qQ at ha
  split at ha
  ·rename_i hn2; exact absurd ha hn2
  rename_i hn2
  rw [ssK]
  exact ⟨fun t ht => zEh s i t hi.1 hg.1 (zCi ha t ht), zC7 r (i + s.size) xs hi.2 hg.2 (by simpa using hl) h⟩
end
mutual
theorem zC4 {lf : Nat} : ∀ (s : Sh) (i d deep r : Nat) (t : Tr), ssT s t → ∀ c ∈ yK lf i d deep r s t, ∀ v, c.v = some v → v.s.size ≤ 100
 | .mk nm rp kd ks, i, d, deep, r, t, h, c, hc, v, hv => by
  rw [ssT] at h
  simp only [yK] at hc
  by_cases hk : kd = 0
  ·subst hk
   rw [if_neg (by decide)] at h hc
   exact zDz ks (i + 1) d deep r t.kids h c hc v hv
  ·rw [if_pos hk] at h hc
   split at hc
   ·rw [zLQ.1 hc] at hv
    cases hv
    exact h
   ·cases hc
theorem zDz {lf : Nat} : ∀ (ks : List Sh) (o d deep r : Nat) (xs : List (List Tr)), ssK ks xs → ∀ c ∈ qB lf o d deep r ks xs, ∀ v, c.v = some v → v.s.size ≤ 100
 | [], o, d, deep, r, xs, h, c, hc, v, hv => by simp [qB] at hc
 | s :: q, o, d, deep, r, [], h, c, hc, v, hv => by simp [qB] at hc
 | s :: q, o, d, deep, r, x :: xs, h, c, hc, v, hv => by
  rw [ssK] at h
  rw [xH] at hc
  rcases List.mem_append.1 hc with hc | hc
  ·rcases zF5 x hc with ⟨_, hc⟩ | ⟨r', t, ht, hc⟩
   ·unfold xK at hc
    split at hc
    ·rw [zLQ.1 hc] at hv; cases hv
    ·cases hc
   ·exact zC4 s o _ _ r' t (h.1 t ht) c hc v hv
  ·exact zDz q (o + s.size) d deep r xs h.2 c hc v hv
end
def jA (l : List Fl) (sh : Sh) (L : List Cl) (n : Int) (x : List Tr) : Prop := yM l sh x = 0 ∧ xL l sh x = L ∧ (x.length : Int) = n
theorem jA.fit {l : List Fl} {sh : Sh} {L : List Cl} {n : Int} {x : List Tr} (h : jA l sh L n x) : ∀ t ∈ x, yL l (KF l) t 0 = 0 := by
 have h1 := h.1
 unfold yM at h1
 split at h1
 ·exact absurd h1 (by decide)
 ·split at h1
  ·rename_i hn; exact absurd h1 hn
  ·rename_i hn
   have h2 := zAA.1 (zLP hn)
   intro t ht
   exact h2 _ (List.mem_map_of_mem ht)
theorem jA.fs {l : List Fl} {sh : Sh} {L : List Cl} {n : Int} {x : List Tr} (hS : Sch l sh) (h : jA l sh L n x) : ∀ t ∈ x, fsT sh t := fun t ht => zEK sh 0 t hS.ix hS.good (h.fit t ht)
theorem jA.len {l : List Fl} {sh : Sh} {L : List Cl} {n : Int} {x : List Tr} (h : jA l sh L n x) : L.length = (zG l l.length).length := by
 rw [← h.2.1, xL, if_pos h.1, zAb]
theorem jA.col {l : List Fl} {sh : Sh} {L : List Cl} {n : Int} {x : List Tr} (h : jA l sh L n x) (k : Nat) (hk : k < L.length) : L[k] = clC (zS ((zG l l.length).getD k 0) sh x) := by
 have e := h.2.1
 rw [xL, if_pos h.1] at e
 subst e
 exact jV hk
theorem zGB {l : List Fl} {sh : Sh} (hS : Sch l sh) (hr0 : sh.rep = 0) {lf : Nat} (hlf : lf < l.length) (hk : (flN l lf).kind ≠ 0) {x : List Tr} (hf : ∀ t ∈ x, fsT sh t) : zJL (lvD l lf) (zS lf sh x) := by
 have hl := zW l
 intro c hc
 obtain ⟨t, ht, hc⟩ := zLR.1 hc
 have h := zC3 (lf := lf) (by rw [hl]; exact hlf) hk sh 0 0 t hS.ix (by rw [hl, hS.len]; omega) hS.good (hf t ht) (Nat.zero_le _) (by rw [Nat.zero_add, ← hS.len]; exact hlf)
 rw [(zDi hS hr0).1, (zDi hS hr0).2] at h
 exact h c hc
theorem jA.cels {q : BQ} {sh : Sh} {n : Int} {x : List Tr} (hS : Sch q.l sh) (hr0 : sh.rep = 0) (h : jA q.l sh q.L n x) : yQ q (fun k => zS (q.lf k) sh x) := by
 intro k hk
 have hkL : k < q.L.length := by rw [h.len]; exact hk
 have hm := zAk.1 (List.getElem_mem (l := zG q.l q.l.length) (n := k) hk)
 have hlf : q.lf k = (zG q.l q.l.length)[k]'hk := by unfold BQ.lf; rw [List.getD_eq_getElem?_getD, List.getElem?_eq_getElem hk]; rfl
 refine ⟨by rw [BQ.X_eq hkL, h.col k hkL]; rfl, ?_⟩
 dsimp only
 rw [hlf]
 exact zGB hS hr0 hm.1 hm.2 (h.fs hS)
theorem jA.short {l : List Fl} {sh : Sh} {L : List Cl} {n : Int} {x : List Tr} (hS : Sch l sh) (h : jA l sh L n x) (k : Nat) (hk : k < L.length) : ∀ v ∈ L[k].v, v.s.size ≤ 100 := by
 rw [h.col k hk]
 intro v hv
 have hv' : v ∈ zV (zS ((zG l l.length).getD k 0) sh x) := hv
 unfold zV at hv'
 obtain ⟨c, hc, hcv⟩ := List.mem_filterMap.1 hv'
 obtain ⟨t, ht, hc⟩ := zLR.1 hc
 exact zC4 sh 0 0 0 0 t (zEh sh 0 t hS.ix hS.good (h.fit t ht)) c hc v hcv
theorem jA.rd {q : BQ} {sh : Sh} {n : Int} {x : List Tr} (hS : Sch q.l sh) (hr0 : sh.rep = 0) (h : jA q.l sh q.L n x) (k : Nat) (hk : k < q.m) : (q.X k).r.length = (q.X k).d.length ∧ vN (lvD q.l (q.lf k) : Int) (q.X k).d (q.X k).d.length = (q.X k).v.length := by
 have hc := h.cels hS hr0
 have h1 := hc.len hk
 refine ⟨by rw [h1.1, h1.2], ?_⟩
 have h2 := (hc k hk)
 have h3 := zFq h2.2 (zS (q.lf k) sh x).length
 rw [List.take_length] at h3
 rw [h1.2]
 have e1 : (q.X k).d = (zS (q.lf k) sh x).map fun c => (c.d : Int) := by rw [h2.1]; rfl
 have e2 : (q.X k).v = zV (zS (q.lf k) sh x) := by rw [h2.1]; rfl
 rw [e1, e2]
 exact h3
end Go.Proofs.Ytjbkjfefjhbolaa
