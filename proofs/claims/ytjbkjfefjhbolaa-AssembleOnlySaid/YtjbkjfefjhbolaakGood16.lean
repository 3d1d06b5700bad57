import Derived.Test.YtjbkjfefjhbolaakRecs16
import Derived.Test.YtjbkjfefjhbolaakColR14
set_option linter.unusedSimpArgs false
set_option linter.unusedVariables false
namespace Go.Proofs.Ytjbkjfefjhbolaa
open Go.RowKit Go.Shr
theorem mem_fldX {g : Nat → Tr → List Cel} {r deep : Nat} {e : List Cel} {c : Cel} : ∀ (x : List Tr), c ∈ fldX g r deep e x → (x = [] ∧ c ∈ e) ∨ ∃ r', ∃ t ∈ x, c ∈ g r' t
 | [], h => .inl ⟨rfl, h⟩
 | t :: ts, h => by
  simp only [fldX] at h
  rcases List.mem_append.1 h with h | h
  ·exact .inr ⟨r, t, by simp, h⟩
  ·obtain ⟨u, hu, hc⟩ := List.mem_flatMap.1 h
   exact .inr ⟨deep, u, by simp [hu], hc⟩
mutual
theorem valC_whole {l : List Fl} {lf : Nat} (hlf : lf < (par l).length) (hkl : (flN l lf).kind ≠ 0) : ∀ (s : Sh) (i r : Nat) (t : Tr), Ix l (fun v => kidsOf (par l) v) i s → i + s.size ≤ (par l).length → GoodS s → fsT s t → i ≤ lf → lf < i + s.size → ∀ c ∈ valC lf i (lvD l i) (lvR l i) r s t, (c.d = lvD l lf ↔ c.v.isSome = true)
 | .mk nm rp kd ks, i, r, t, hx, hn, hg, hok, h1, h2 => by
  simp only [GoodS] at hg
  simp only [Ix] at hx
  simp only [valC]
  rw [fsT] at hok
  by_cases hk : kd = 0
  ·subst hk
   rw [if_neg (by decide)] at hok ⊢
   simp only [Sh.size] at h2 hn
   have hne : lf ≠ i := by
    intro e
    rw [e] at hkl
    exact hkl (by simp [flN, List.getD, hx.1])
   refine kidC_whole hlf hkl ks (i + 1) i r t.kids hx.2.2 (by omega) hg.2.2.2.2.2.2 hok.2.2 (fun j hj => ?_) (by omega) (by omega)
   rw [← hx.2.1] at hj
   exact par_some hj
  ·rw [if_pos hk]
   have hks := hg.2.2.2.2.1 hk
   subst hks
   simp only [Sh.size, shSizes] at h2
   have hi : i = lf := by omega
   subst hi
   rw [if_pos rfl]
   intro c hc
   rw [List.mem_singleton.1 hc]; simp
theorem kidC_whole {l : List Fl} {lf : Nat} (hlf : lf < (par l).length) (hkl : (flN l lf).kind ≠ 0) : ∀ (ks : List Sh) (o i r : Nat) (xs : List (List Tr)), IxL l (fun v => kidsOf (par l) v) o ks → o + shSizes ks ≤ (par l).length → GoodL ks → fsK ks xs →
  (∀ j : Nat, (j : Int) ∈ offs o ks → ∃ hj : j < (par l).length, (par l)[j] = (i : Int)) → o ≤ lf → lf < o + shSizes ks → ∀ c ∈ kidC lf o (lvD l i) (lvR l i) r ks xs, (c.d = lvD l lf ↔ c.v.isSome = true)
 | [], o, i, r, xs, _, _, _, _, _, h1, h2 => by simp only [shSizes] at h2; omega
 | s :: q, o, i, r, [], _, _, _, hok, _, _, _ => by rw [fsK] at hok; exact hok.elim
 | s :: q, o, i, r, x :: xs, hx, hn, hg, hok, hp, h1, h2 => by
  simp only [GoodL] at hg
  simp only [IxL] at hx
  simp only [shSizes] at h2 hn
  rw [fsK] at hok
  rw [kidC_cons]
  by_cases hr : lf < o + s.size
  ·rw [kidC_out q (o + s.size) _ _ r xs (by omega), List.append_nil]
   obtain ⟨hj, hpo⟩ := hp o (by simp [offs])
   have hf : ∃ f, l[o]? = some f ∧ f.rep = s.rep := by
    obtain ⟨nm, rp, kd, kk⟩ := s
    have := hx.1
    simp only [Ix] at this
    exact ⟨_, this.1, rfl⟩
   obtain ⟨f, hf1, hf2⟩ := hf
   have hst := lv_step hj hpo hf1
   rw [hf2] at hst
   have hm := chain_in s o hx.1 (by omega) lf h1 hr
   have hle := lvR_le hm
   unfold fldC
   rw [← hst.1, ← hst.2]
   intro c hc
   rcases mem_fldX x hc with ⟨he, hc⟩ | ⟨r', t, ht, hc⟩
   ·subst he
    have hrep := lenRep0 hok.1
    have hdm : dmI s.rep = 1 := by unfold dmI; rcases hrep with h | h <;> rw [h] <;> rfl
    unfold noneC at hc
    rw [if_pos ⟨h1, hr⟩] at hc
    rw [List.mem_singleton.1 hc]
    dsimp only
    exact ⟨fun h => by omega, fun h => by cases h⟩
   ·exact valC_whole hlf hkl s o r' t hx.1 (by omega) hg.1 (hok.2.1 t ht) h1 hr c hc
  ·rw [fldC_out s o _ _ r x (by omega), List.nil_append]
   exact kidC_whole hlf hkl q (o + s.size) i r xs hx.2 (by omega) hg.2 hok.2.2 (fun j hj => hp j (by simp [offs, hj])) (by omega) (by omega)
end
mutual
def ssT : Sh → Tr → Prop
 | .mk _ _ kd ks, t => if kd ≠ 0 then t.s.size ≤ 100 else ssK ks t.kids
def ssK : List Sh → List (List Tr) → Prop
 | [], _ => True
 | _ :: _, [] => True
 | s :: r, x :: xs => (∀ t ∈ x, ssT s t) ∧ ssK r xs
end
theorem leafT_short {kind : Int} {t : Tr} (h1 : 1 ≤ kind) (h4 : kind ≤ 4) (h : leafT kind t = 0) : t.s.size ≤ 100 := by
 unfold leafT at h
 have hs := str_len t.s
 by_cases he : t.s.size ≤ 100
 ·exact he
 ·have hne : t.s.toList ≠ [] := fun e => by rw [e] at hs; simp at hs; omega
  exfalso
  split at h
  ·exact absurd h (by decide)
  ·rename_i hn
   have h3 : kind = 4 := Decidable.byContradiction fun hk => hn (.inr (.inr ⟨hk, hne⟩))
   rw [h3] at h
   simp at h
   omega
mutual
theorem ss_of_fit {l : List Fl} {K : Int → List Int} : ∀ (s : Sh) (i : Nat) (t : Tr), Ix l K i s → GoodS s → fitT l K t i = 0 → ssT s t
 | .mk nm rp kd ks, i, t, hi, hg, ht => by
  simp only [Ix] at hi
  simp only [GoodS] at hg
  obtain ⟨h1, h2, h3⟩ := hi
  have hf : flAt l (i : Int) = ⟨nm, rp, kd, ks.length⟩ := by simp [flAt, h1]
  rw [fitT_eq, hf] at ht
  dsimp only at ht
  rw [ssT]
  by_cases hk : kd = 0
  ·subst hk
   rw [if_neg (fun h => h rfl)] at ht ⊢
   split at ht
   ·exact absurd ht (by decide)
   ·rename_i hn
    rw [h2] at ht hn
    have hn3 : t.kids.length = (offs (i + 1) ks).length := Decidable.byContradiction fun h => hn (.inr (.inr h))
    rw [offs_len] at hn3
    exact ss_of_fitK ks (i + 1) t.kids h3 hg.2.2.2.2.2.2 hn3 ht
  ·rw [if_pos hk] at ht ⊢
   exact leafT_short (by omega) hg.2.2.2.1 ht
theorem ss_of_fitK {l : List Fl} {K : Int → List Int} : ∀ (ks : List Sh) (i : Nat) (xs : List (List Tr)), IxL l K i ks → GoodL ks → xs.length = ks.length → fitK l K xs (offs i ks) = 0 → ssK ks xs
 | [], i, xs, _, _, hl, _ => by rw [ssK]; trivial
 | s :: r, i, [], _, _, hl, _ => by simp at hl
 | s :: r, i, x :: xs, hi, hg, hl, h => by
  simp only [IxL] at hi
  simp only [GoodL] at hg
  rw [fitK_cons] at h
  split at h
  ·rename_i hn; exact absurd h hn
  rename_i hn
  have ha : fitA l K x (i : Int) = 0 := Decidable.byContradiction hn
  unfold fitA at ha
  split at ha
  ·rename_i hn2; exact absurd ha hn2
  rename_i hn2
  rw [ssK]
  exact ⟨fun t ht => ss_of_fit s i t hi.1 hg.1 (fitX_mem ha t ht), ss_of_fitK r (i + s.size) xs hi.2 hg.2 (by simpa using hl) h⟩
end
mutual
theorem valC_short {lf : Nat} : ∀ (s : Sh) (i d deep r : Nat) (t : Tr), ssT s t → ∀ c ∈ valC lf i d deep r s t, ∀ v, c.v = some v → v.s.size ≤ 100
 | .mk nm rp kd ks, i, d, deep, r, t, h, c, hc, v, hv => by
  rw [ssT] at h
  simp only [valC] at hc
  by_cases hk : kd = 0
  ·subst hk
   rw [if_neg (by decide)] at h hc
   exact kidC_short ks (i + 1) d deep r t.kids h c hc v hv
  ·rw [if_pos hk] at h hc
   split at hc
   ·rw [List.mem_singleton.1 hc] at hv
    cases hv
    exact h
   ·cases hc
theorem kidC_short {lf : Nat} : ∀ (ks : List Sh) (o d deep r : Nat) (xs : List (List Tr)), ssK ks xs → ∀ c ∈ kidC lf o d deep r ks xs, ∀ v, c.v = some v → v.s.size ≤ 100
 | [], o, d, deep, r, xs, h, c, hc, v, hv => by simp [kidC] at hc
 | s :: q, o, d, deep, r, [], h, c, hc, v, hv => by simp [kidC] at hc
 | s :: q, o, d, deep, r, x :: xs, h, c, hc, v, hv => by
  rw [ssK] at h
  rw [kidC_cons] at hc
  rcases List.mem_append.1 hc with hc | hc
  ·rcases mem_fldX x hc with ⟨_, hc⟩ | ⟨r', t, ht, hc⟩
   ·unfold noneC at hc
    split at hc
    ·rw [List.mem_singleton.1 hc] at hv; cases hv
    ·cases hc
   ·exact valC_short s o _ _ r' t (h.1 t ht) c hc v hv
  ·exact kidC_short q (o + s.size) d deep r xs h.2 c hc v hv
end
def Good (l : List Fl) (sh : Sh) (L : List Cl) (n : Int) (x : List Tr) : Prop := colsE l sh x = 0 ∧ colsL l sh x = L ∧ (x.length : Int) = n
theorem Good.fit {l : List Fl} {sh : Sh} {L : List Cl} {n : Int} {x : List Tr} (h : Good l sh L n x) : ∀ t ∈ x, fitT l (KF l) t 0 = 0 := by
 have h1 := h.1
 unfold colsE at h1
 split at h1
 ·exact absurd h1 (by decide)
 ·split at h1
  ·rename_i hn; exact absurd h1 hn
  ·rename_i hn
   have h2 := firstE_zero.1 (Decidable.byContradiction hn)
   intro t ht
   exact h2 _ (List.mem_map_of_mem ht)
theorem Good.fs {l : List Fl} {sh : Sh} {L : List Cl} {n : Int} {x : List Tr} (hS : Sch l sh) (h : Good l sh L n x) : ∀ t ∈ x, fsT sh t := fun t ht => fs_of_fit sh 0 t hS.ix hS.good (h.fit t ht)
theorem Good.len {l : List Fl} {sh : Sh} {L : List Cl} {n : Int} {x : List Tr} (h : Good l sh L n x) : L.length = (leafs l l.length).length := by
 rw [← h.2.1, colsL, if_pos h.1, clsC_len]
theorem Good.col {l : List Fl} {sh : Sh} {L : List Cl} {n : Int} {x : List Tr} (h : Good l sh L n x) (k : Nat) (hk : k < L.length) : L[k] = clC (rowsC ((leafs l l.length).getD k 0) sh x) := by
 have e := h.2.1
 rw [colsL, if_pos h.1] at e
 subst e
 exact clsC_get hk
theorem rows_whole {l : List Fl} {sh : Sh} (hS : Sch l sh) (hr0 : sh.rep = 0) {lf : Nat} (hlf : lf < l.length) (hk : (flN l lf).kind ≠ 0) {x : List Tr} (hf : ∀ t ∈ x, fsT sh t) : Whole (lvD l lf) (rowsC lf sh x) := by
 have hl := par_length l
 intro c hc
 obtain ⟨t, ht, hc⟩ := List.mem_flatMap.1 hc
 have h := valC_whole (lf := lf) (by rw [hl]; exact hlf) hk sh 0 0 t hS.ix (by rw [hl, hS.len]; omega) hS.good (hf t ht) (Nat.zero_le _) (by rw [Nat.zero_add, ← hS.len]; exact hlf)
 rw [(root_lv hS hr0).1, (root_lv hS hr0).2] at h
 exact h c hc
theorem Good.cels {q : BQ} {sh : Sh} {n : Int} {x : List Tr} (hS : Sch q.l sh) (hr0 : sh.rep = 0) (h : Good q.l sh q.L n x) : CelsOf q (fun k => rowsC (q.lf k) sh x) := by
 intro k hk
 have hkL : k < q.L.length := by rw [h.len]; exact hk
 have hm := leafs_mem.1 (List.getElem_mem (l := leafs q.l q.l.length) (n := k) hk)
 have hlf : q.lf k = (leafs q.l q.l.length)[k]'hk := by unfold BQ.lf; rw [List.getD_eq_getElem?_getD, List.getElem?_eq_getElem hk]; rfl
 refine ⟨by rw [BQ.X_eq hkL, h.col k hkL]; rfl, ?_⟩
 dsimp only
 rw [hlf]
 exact rows_whole hS hr0 hm.1 hm.2 (h.fs hS)
theorem Good.short {l : List Fl} {sh : Sh} {L : List Cl} {n : Int} {x : List Tr} (hS : Sch l sh) (h : Good l sh L n x) (k : Nat) (hk : k < L.length) : ∀ v ∈ L[k].v, v.s.size ≤ 100 := by
 rw [h.col k hk]
 intro v hv
 have hv' : v ∈ celV (rowsC ((leafs l l.length).getD k 0) sh x) := hv
 unfold celV at hv'
 obtain ⟨c, hc, hcv⟩ := List.mem_filterMap.1 hv'
 obtain ⟨t, ht, hc⟩ := List.mem_flatMap.1 hc
 exact valC_short sh 0 0 0 0 t (ss_of_fit sh 0 t hS.ix hS.good (h.fit t ht)) c hc v hcv
theorem Good.rd {q : BQ} {sh : Sh} {n : Int} {x : List Tr} (hS : Sch q.l sh) (hr0 : sh.rep = 0) (h : Good q.l sh q.L n x) (k : Nat) (hk : k < q.m) : (q.X k).r.length = (q.X k).d.length ∧ vN (lvD q.l (q.lf k) : Int) (q.X k).d (q.X k).d.length = (q.X k).v.length := by
 have hc := h.cels hS hr0
 have h1 := hc.len hk
 refine ⟨by rw [h1.1, h1.2], ?_⟩
 have h2 := (hc k hk)
 have h3 := vN_cel h2.2 (rowsC (q.lf k) sh x).length
 rw [List.take_length] at h3
 rw [h1.2]
 have e1 : (q.X k).d = (rowsC (q.lf k) sh x).map fun c => (c.d : Int) := by rw [h2.1]; rfl
 have e2 : (q.X k).v = celV (rowsC (q.lf k) sh x) := by rw [h2.1]; rfl
 rw [e1, e2]
 exact h3
end Go.Proofs.Ytjbkjfefjhbolaa
