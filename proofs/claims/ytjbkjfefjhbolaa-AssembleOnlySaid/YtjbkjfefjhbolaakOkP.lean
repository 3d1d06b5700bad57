import Derived.Test.YtjbkjfefjhbolaakMake8
import Derived.Test.YtjbkjfefjhbolaakLeafP
set_option linter.unusedSimpArgs false
set_option linter.unusedVariables false
namespace Go.Proofs.Ytjbkjfefjhbolaa
open Go.RowKit Go.Shr
end Go.Proofs.Ytjbkjfefjhbolaa
namespace Go.Proofs.Ytjbkjfefjhbolaa
open Go.RowKit Go.Shr
theorem fitX_nil_or {l : List Fl} {K : Int → List Int} {f : Nat → Tr × Nat} {i : Int} (h : ∀ k, fitT l K (f k).1 i = 0) : ∀ (m k : Nat), fitX l K (mkX f m k).1 i = 0
  | 0, k => by simp [mkX, fitX]
  | m + 1, k => by simp only [mkX, fitX, h k, fitX_nil_or h m (f k).2]; simp
theorem mkX_len {f : Nat → Tr × Nat} : ∀ (m k : Nat), (mkX f m k).1.length = m
  | 0, k => by simp [mkX]
  | m + 1, k => by simp [mkX, mkX_len m (f k).2]
theorem emod_bd (x : Int) {m : Int} (h : 0 < m) : 0 ≤ x % m ∧ x % m < m := ⟨Int.emod_nonneg _ (by omega), Int.emod_lt_of_pos _ h⟩
theorem cntOf_fit (ns : List Int) (rep : Int) (k : Nat) (h0 : 0 ≤ rep) (h2 : rep ≤ 2) : repT rep (cntOf ns rep k).1 = 0 := by
  have a1 := emod_bd (ns.getD k 0) (show (0 : Int) < 2 by decide)
  have a2 := emod_bd (ns.getD k 0) (show (0 : Int) < 4 by decide)
  unfold repT cntOf
  by_cases h : rep = 1
  · rw [if_pos h]; dsimp only; rw [if_neg (by omega), if_neg (by omega)]
  · rw [if_neg h]
    by_cases h' : rep = 2
    · rw [if_pos h']; dsimp only; rw [if_neg (by omega), if_neg (by omega)]
    · rw [if_neg h']; dsimp only; rw [if_neg (by omega), if_neg (by omega)]
theorem nostr : (⟨#[]⟩ : ByteArray).toList = [] := by decide +kernel
mutual
theorem fit_mkT {l : List Fl} {K : Int → List Int} (ns : List Int) : ∀ (s : Sh) (i : Nat) (k : Nat), Ix l K i s → GoodS s → fitT l K (mkT ns s k).1 i = 0
  | .mk nm rp kd ks, i, k, hi, hg => by
    simp only [Ix] at hi
    simp only [GoodS] at hg
    obtain ⟨h1, h2, h3⟩ := hi
    have hf : flAt l (i : Int) = ⟨nm, rp, kd, ks.length⟩ := by simp [flAt, h1]
    rw [fitT_eq, hf]
    dsimp only
    have a1 := emod_bd (ns.getD k 0) (show (0 : Int) < 2 by decide)
    have a2 := emod_bd (ns.getD k 0) (show (0 : Int) < 300 by decide)
    have a3 := emod_bd (ns.getD k 0) (show (0 : Int) < 9 by decide)
    by_cases hk : kd = 0
    · subst hk
      have e : (mkT ns (.mk nm rp 0 ks) k).1 = .mk 0 ⟨#[]⟩ (mkK ns ks (nextA ns k)).1 := by
        rw [mkT, if_neg (by decide), if_neg (by decide), if_neg (by decide), if_neg (by decide)]
      rw [e, if_neg (fun h => h rfl)]
      have hkk := fit_mkK ns ks (i + 1) (nextA ns k) h3 hg.2.2.2.2.2.2
      rw [if_neg (by rintro (h | h | h)
                     · exact h rfl
                     · exact h nostr
                     · rw [h2, offs_len] at h; exact h hkk.2)]
      show fitK l K (mkK ns ks (nextA ns k)).1 (K i) = 0
      rw [h2]; exact hkk.1
    · rw [if_pos hk, mkT]
      have hl : ∀ (n : Int) (s : ByteArray), ¬ ((kd = 4 ∧ n ≠ 0) ∨ (kd ≠ 4 ∧ s.toList ≠ [])) → leafT kd (Tr.mk n s []) = if kd = 1 then (if n < 0 ∨ 1 < n then 14 else 0) else if kd = 2 then (if n < -2147483648 ∨ 2147483647 < n then 14 else 0) else if kd = 3 then 0 else if 100 < s.size then 5 else 0 := fun n s h => by
        unfold leafT
        rw [if_neg (by simpa [Tr.n, Tr.s, Tr.kids] using h)]
        rfl
      by_cases k1 : kd = 1
      · rw [if_pos k1]; dsimp only; rw [hl _ _ (by rw [nostr]; simp; omega), if_pos k1, if_neg (by omega)]
      · rw [if_neg k1]
        by_cases k2 : kd = 2
        · rw [if_pos k2]; dsimp only; rw [hl _ _ (by rw [nostr]; simp; omega), if_neg k1, if_pos k2, if_neg (by omega)]
        · rw [if_neg k2]
          by_cases k3 : kd = 3
          · rw [if_pos k3]; dsimp only; rw [hl _ _ (by rw [nostr]; simp; omega), if_neg k1, if_neg k2, if_pos k3]
          · rw [if_neg k3]
            have k4 : kd = 4 := by omega
            rw [if_pos k4]; dsimp only
            have hsz : (abc.extract 0 (ns.getD k 0 % 9).toNat).size ≤ 100 := by
              rw [ByteArray.size_extract]; have : abc.size = 12 := by decide
              omega
            rw [hl _ _ (by simp [k4]), if_neg k1, if_neg k2, if_neg k3, if_neg (by omega)]
theorem fit_mkK {l : List Fl} {K : Int → List Int} (ns : List Int) : ∀ (ks : List Sh) (i : Nat) (k : Nat), IxL l K i ks → GoodL ks → fitK l K (mkK ns ks k).1 (offs i ks) = 0 ∧ (mkK ns ks k).1.length = ks.length
  | [], i, k, _, _ => by simp [mkK, fitK]
  | s :: r, i, k, hi, hg => by
    simp only [IxL] at hi
    simp only [GoodL] at hg
    have h1 := fitX_nil_or (f := mkT ns s) (fun k => fit_mkT ns s i k hi.1 hg.1) (cntOf ns s.rep k).1 (cntOf ns s.rep k).2
    have h2 := fit_mkK ns r (i + s.size) (mkX (mkT ns s) (cntOf ns s.rep k).1 (cntOf ns s.rep k).2).2 hi.2 hg.2
    have hf : (flAt l (i : Int)).rep = s.rep := by
      obtain ⟨nm, rp, kd, ks⟩ := s
      have := hi.1; simp only [Ix] at this
      simp [flAt, this.1, Sh.rep]
    have hr : repT s.rep (cntOf ns s.rep k).1 = 0 := by
      obtain ⟨nm, rp, kd, ks⟩ := s
      have := hg.1; simp only [GoodS] at this
      exact cntOf_fit ns rp k this.1 this.2.1
    simp only [mkK, offs, List.length_cons, h2.2]
    refine ⟨?_, trivial⟩
    rw [fitK_cons]
    simp only [List.headD_cons, List.tail_cons, fitA, hf, mkX_len, hr, h1]
    simpa using h2.1
end
theorem Sch.fit {l : List Fl} {sh : Sh} (h : Sch l sh) (ns : List Int) : fitT l (KF l) (makeT sh ns) 0 = 0 := fit_mkT ns sh 0 0 h.ix h.good
end Go.Proofs.Ytjbkjfefjhbolaa
namespace Go.Proofs.Ytjbkjfefjhbolaa
open Go.RowKit Go.Shr
def okRep (rep : Int) (m : Nat) : Prop := if rep = 1 then m ≤ 1 else if rep = 2 then m ≤ 50 else m = 1
end Go.Proofs.Ytjbkjfefjhbolaa
namespace Go.Proofs.Ytjbkjfefjhbolaa
open Go.RowKit Go.Shr
structure Vc where
 n : Int
 s : ByteArray
structure Cel where
 r : Nat
 d : Nat
 v : Option Vc
def dmI (rep : Int) : Nat := if rep = 0 then 0 else 1
def rmI (rep : Int) : Nat := if rep = 2 then 1 else 0
def noneC (lf o : Nat) (s : Sh) (r d : Nat) : List Cel := if o ≤ lf ∧ lf < o + s.size then [⟨r, d, none⟩] else []
def fldX (g : Nat → Tr → List Cel) (r deep : Nat) (e : List Cel) : List Tr → List Cel
 | [] => e
 | t :: ts => g r t ++ ts.flatMap (g deep)
mutual
def valC (lf i : Nat) (d deep r : Nat) : Sh → Tr → List Cel
 | .mk _ _ kd ks, t => if kd ≠ 0 then (if i = lf then [⟨r, d, some ⟨t.n, t.s⟩⟩] else []) else kidC lf (i + 1) d deep r ks t.kids
def kidC (lf o : Nat) (d deep r : Nat) : List Sh → List (List Tr) → List Cel
 | [], _ => []
 | _ :: _, [] => []
 | s :: q, x :: xs => fldX (fun r' u => valC lf o (d + dmI s.rep) (deep + rmI s.rep) r' s u) r (deep + rmI s.rep) (noneC lf o s r d) x ++ kidC lf (o + s.size) d deep r q xs
end
def fldC (lf o : Nat) (d deep r : Nat) (s : Sh) (x : List Tr) : List Cel := fldX (fun r' u => valC lf o (d + dmI s.rep) (deep + rmI s.rep) r' s u) r (deep + rmI s.rep) (noneC lf o s r d) x
theorem kidC_cons (lf o d deep r : Nat) (s : Sh) (q : List Sh) (x : List Tr) (xs : List (List Tr)) : kidC lf o d deep r (s :: q) (x :: xs) = fldC lf o d deep r s x ++ kidC lf (o + s.size) d deep r q xs := rfl
theorem kidC_snoc {lf d deep r : Nat} : ∀ (done : List Sh) (A : List (List Tr)) (o : Nat) (s : Sh) (x : List Tr), A.length = done.length →
  kidC lf o d deep r (done ++ [s]) (A ++ [x]) = kidC lf o d deep r done A ++ fldC lf (o + shSizes done) d deep r s x
 | [], A, o, s, x, h => by
  obtain rfl := List.eq_nil_of_length_eq_zero h
  simp [kidC, shSizes, fldC]
 | e :: done, [], o, s, x, h => by simp at h
 | e :: done, a :: A, o, s, x, h => by
  have ih := kidC_snoc (lf := lf) (d := d) (deep := deep) (r := r) done A (o + e.size) s x (by simpa using h)
  simp only [List.cons_append, kidC_cons, shSizes]
  rw [ih, Nat.add_assoc, List.append_assoc]
def fldN (lf o : Nat) (d deep r : Nat) (s : Sh) (x : List Tr) (g : Nat) : List Cel :=
 (x.take g).zipIdx.flatMap fun p => valC lf o (d + dmI s.rep) (deep + rmI s.rep) (if p.2 = 0 then r else deep + rmI s.rep) s p.1
theorem fldN_succ {lf o d deep r : Nat} {s : Sh} {x : List Tr} {g : Nat} (h : g < x.length) : fldN lf o d deep r s x (g + 1) = fldN lf o d deep r s x g ++ valC lf o (d + dmI s.rep) (deep + rmI s.rep) (if g = 0 then r else deep + rmI s.rep) s x[g] := by
 unfold fldN
 rw [List.take_succ_eq_append_getElem h, List.zipIdx_append, List.flatMap_append]
 simp [List.length_take, Nat.min_eq_left (Nat.le_of_lt h)]
theorem flatMap_zipIdx_succ {α β : Type} {f : α → List β} : ∀ (ts : List α) (k : Nat) (g : α → List β), (ts.zipIdx (k + 1)).flatMap (fun p => if p.2 = 0 then g p.1 else f p.1) = ts.flatMap f
 | [], _, _ => rfl
 | t :: ts, k, g => by
  rw [List.zipIdx_cons, List.flatMap_cons, List.flatMap_cons, flatMap_zipIdx_succ ts (k + 1) g]
  simp
theorem fldN_all {lf o d deep r : Nat} {s : Sh} {x : List Tr} (h : x ≠ []) : fldN lf o d deep r s x x.length = fldC lf o d deep r s x := by
 cases x with
 | nil => exact absurd rfl h
 | cons t ts =>
  unfold fldN fldC
  rw [List.take_length, List.zipIdx_cons, List.flatMap_cons]
  simp only [fldX, if_true]
  congr 1
  have := flatMap_zipIdx_succ (f := fun u => valC lf o (d + dmI s.rep) (deep + rmI s.rep) (deep + rmI s.rep) s u) ts 0 (fun u => valC lf o (d + dmI s.rep) (deep + rmI s.rep) r s u)
  rw [← this]
  congr 1
  funext p
  split
  ·rfl
  ·rfl
theorem fldC_nil {lf o d deep r : Nat} {s : Sh} : fldC lf o d deep r s [] = noneC lf o s r d := rfl
mutual
def shT : Sh → Tr → Prop
 | .mk _ _ kd ks, t => kd = 0 → shK ks t.kids
def shK : List Sh → List (List Tr) → Prop
 | [], xs => xs = []
 | _ :: _, [] => False
 | s :: r, x :: xs => x.length ≤ 50 ∧ (∀ t ∈ x, shT s t) ∧ shK r xs
end
theorem repT_50 {rep : Int} {m : Nat} (h : repT rep m = 0) : m ≤ 50 := by
 unfold repT at h
 split at h
 ·exact absurd h (by decide)
 ·split at h
  ·exact absurd h (by decide)
  ·omega
theorem fitX_mem {l : List Fl} {K : Int → List Int} {i : Int} : ∀ {x : List Tr}, fitX l K x i = 0 → ∀ t ∈ x, fitT l K t i = 0
 | [], _, t, ht => by cases ht
 | u :: r, h, t, ht => by
  simp only [fitX] at h
  have hu : fitT l K u i = 0 := by
   by_cases h0 : fitT l K u i = 0
   ·exact h0
   ·rw [if_pos h0] at h; exact h
  rw [if_neg (fun h0 => h0 hu)] at h
  rcases List.mem_cons.1 ht with rfl | ht
  ·exact hu
  ·exact fitX_mem h t ht
mutual
theorem sh_fitT {l : List Fl} {K : Int → List Int} : ∀ (s : Sh) (i : Nat) (t : Tr), Ix l K i s → fitT l K t i = 0 → shT s t
 | .mk nm rp kd ks, i, t, hi, ht => by
  simp only [Ix] at hi
  obtain ⟨h1, h2, h3⟩ := hi
  have hf : flAt l (i : Int) = ⟨nm, rp, kd, ks.length⟩ := by simp [flAt, h1]
  rw [fitT_eq, hf] at ht
  dsimp only at ht
  simp only [shT]
  intro hk
  subst hk
  rw [if_neg (fun h => h rfl)] at ht
  split at ht
  ·exact absurd ht (by decide)
  ·rename_i hn
   rw [h2] at ht hn
   refine sh_fitK ks (i + 1) t.kids h3 ?_ ht
   rw [offs_len] at hn
   omega
theorem sh_fitK {l : List Fl} {K : Int → List Int} : ∀ (ks : List Sh) (i : Nat) (xs : List (List Tr)), IxL l K i ks → xs.length = ks.length → fitK l K xs (offs i ks) = 0 → shK ks xs
 | [], i, xs, _, hl, _ => by rw [shK]; exact List.eq_nil_of_length_eq_zero hl
 | s :: r, i, [], _, hl, _ => by simp at hl
 | s :: r, i, x :: xs, hi, hl, h => by
  simp only [IxL] at hi
  rw [fitK_cons] at h
  split at h
  ·rename_i hn; exact absurd h hn
  rename_i hn
  have ha : fitA l K x (i : Int) = 0 := Decidable.byContradiction hn
  unfold fitA at ha
  split at ha
  ·rename_i hn2; exact absurd ha hn2
  rename_i hn2
  have hr : repT (flAt l (i : Int)).rep x.length = 0 := Decidable.byContradiction hn2
  rw [shK]
  exact ⟨repT_50 hr, fun t ht => sh_fitT s i t hi.1 (fitX_mem ha t ht), sh_fitK r (i + s.size) xs hi.2 (by simpa using hl) h⟩
end
theorem shK_len : ∀ {ks : List Sh} {xs : List (List Tr)}, shK ks xs → xs.length = ks.length
 | [], xs, h => by rw [shK] at h; subst h; rfl
 | s :: r, [], h => by rw [shK] at h; exact h.elim
 | s :: r, x :: xs, h => by rw [shK] at h; simp [shK_len h.2.2]
theorem shK_get : ∀ {ks : List Sh} {xs : List (List Tr)} (_ : shK ks xs) (k : Nat) (hk : k < ks.length) (hx : k < xs.length), xs[k].length ≤ 50 ∧ ∀ t ∈ xs[k], shT ks[k] t
 | s :: r, x :: xs, h, 0, _, _ => by rw [shK] at h; exact ⟨h.1, h.2.1⟩
 | s :: r, x :: xs, h, k + 1, h1, h2 => by rw [shK] at h; exact shK_get h.2.2 k (by simpa using h1) (by simpa using h2)
mutual
theorem ix_in {l : List Fl} {K : Int → List Int} : ∀ (s : Sh) (i : Nat), Ix l K i s → ∀ (j : Nat), i ≤ j → j < i + s.size → ∃ s', Ix l K j s' ∧ j + s'.size ≤ i + s.size
 | .mk nm r k ks, i, h, j, h1, h2 => by
  by_cases e : j = i
  ·subst e; exact ⟨_, h, Nat.le_refl _⟩
  ·simp only [Ix] at h
   simp only [Sh.size] at h2 ⊢
   obtain ⟨s', h3, h4⟩ := ixL_in ks (i + 1) h.2.2 j (by omega) (by omega)
   exact ⟨s', h3, by omega⟩
theorem ixL_in {l : List Fl} {K : Int → List Int} : ∀ (ks : List Sh) (i : Nat), IxL l K i ks → ∀ (j : Nat), i ≤ j → j < i + shSizes ks → ∃ s', Ix l K j s' ∧ j + s'.size ≤ i + shSizes ks
 | [], i, _, j, h1, h2 => by simp only [shSizes] at h2; omega
 | s :: r, i, h, j, h1, h2 => by
  simp only [IxL] at h
  simp only [shSizes] at h2 ⊢
  by_cases e : j < i + s.size
  ·obtain ⟨s', h3, h4⟩ := ix_in s i h.1 j h1 e
   exact ⟨s', h3, by omega⟩
  ·obtain ⟨s', h3, h4⟩ := ixL_in r (i + s.size) h.2 j (by omega) (by omega)
   exact ⟨s', h3, by omega⟩
end
theorem mem_offs_lt : ∀ {ks : List Sh} {o : Nat} {j : Int}, j ∈ offs o ks → (o : Int) ≤ j ∧ j < ((o + shSizes ks : Nat) : Int)
 | [], o, j, h => by simp [offs] at h
 | s :: r, o, j, h => by
  have hs : 1 ≤ s.size := by cases s; simp only [Sh.size]; omega
  simp only [offs, List.mem_cons] at h
  simp only [shSizes]
  rcases h with h | h
  ·omega
  ·have := mem_offs_lt h; omega
theorem par_some {l : List Fl} {j i : Nat} (h : (j : Int) ∈ kidsOf (par l) (i : Int)) : ∃ hj : j < (par l).length, (par l)[j] = (i : Int) := by
 have h1 := kidsOf_mem h
 have hj : j < (par l).length := by omega
 refine ⟨hj, ?_⟩
 have := h1.2.2
 rw [List.getD_eq_getElem?_getD, Int.toNat_natCast, List.getElem?_eq_getElem hj] at this
 exact this
theorem mem_kids {l : List Fl} {j i : Nat} (hj : j < (par l).length) (h : (par l)[j] = (i : Int)) : (j : Int) ∈ kidsOf (par l) (i : Int) := by
 unfold kidsOf
 rw [List.mem_map]
 refine ⟨j, ?_, rfl⟩
 rw [List.mem_filter]
 refine ⟨List.mem_range.2 hj, ?_⟩
 rw [List.getD_eq_getElem?_getD, List.getElem?_eq_getElem hj]
 simp [h]
mutual
theorem chain_in {l : List Fl} : ∀ (s : Sh) (i : Nat), Ix l (fun v => kidsOf (par l) v) i s → i + s.size ≤ (par l).length → ∀ lf, i ≤ lf → lf < i + s.size → i ∈ Go.Shr.chain (par l) lf
 | .mk nm r k ks, i, h, hn, lf, h1, h2 => by
  by_cases e : lf = i
  ·subst e; exact chain_self _ _
  ·simp only [Ix] at h
   simp only [Sh.size] at h2 hn
   obtain ⟨o, ho, hoc⟩ := chainL_in ks (i + 1) h.2.2 (by omega) lf (by omega) (by omega)
   rw [← h.2.1] at ho
   obtain ⟨hol, hop⟩ := par_some ho
   obtain ⟨A, hA, _⟩ := chain_sub (par l) o lf hoc
   rw [hA]
   refine List.mem_append_right _ ?_
   rw [chain_eq (fun j hj => par_bd l j hj) hol, hop, chainI_nat]
   exact List.mem_cons_of_mem _ (chain_self _ _)
theorem chainL_in {l : List Fl} : ∀ (ks : List Sh) (o : Nat), IxL l (fun v => kidsOf (par l) v) o ks → o + shSizes ks ≤ (par l).length → ∀ lf, o ≤ lf → lf < o + shSizes ks → ∃ j : Nat, (j : Int) ∈ offs o ks ∧ j ∈ Go.Shr.chain (par l) lf
 | [], o, _, _, lf, h1, h2 => by simp only [shSizes] at h2; omega
 | s :: r, o, h, hn, lf, h1, h2 => by
  simp only [IxL] at h
  simp only [shSizes] at h2 hn
  by_cases e : lf < o + s.size
  ·exact ⟨o, by simp [offs], chain_in s o h.1 (by omega) lf h1 e⟩
  ·obtain ⟨j, h3, h4⟩ := chainL_in r (o + s.size) h.2 (by omega) lf (by omega) (by omega)
   exact ⟨j, by simp [offs, h3], h4⟩
end
theorem chain_out {l : List Fl} {s : Sh} {i : Nat} (h : Ix l (fun v => kidsOf (par l) v) i s) : ∀ (lf : Nat), lf < (par l).length → i ∈ Go.Shr.chain (par l) lf → lf < i + s.size := by
 intro lf
 induction lf using Nat.strongRecOn with
 | _ lf ih =>
  intro hlt hm
  have hs : 1 ≤ s.size := by cases s; simp only [Sh.size]; omega
  by_cases e : lf = i
  ·omega
  ·have hb := par_bd l lf hlt
   rw [chain_eq (fun j hj => par_bd l j hj) hlt] at hm
   rcases List.mem_cons.1 hm with h1 | h1
   ·omega
   ·by_cases hp : (par l)[lf] < 0
    ·rw [chainI_neg _ hp] at h1; cases h1
    ·obtain ⟨p, hpe⟩ : ∃ p : Nat, (par l)[lf] = (p : Int) := ⟨(par l)[lf].toNat, by omega⟩
     rw [hpe, chainI_nat] at h1
     have hplt : p < lf := by omega
     have hpr := ih p hplt (by omega) h1
     have hpi := chain_le _ _ _ h1
     obtain ⟨s', h3, h4⟩ := ix_in s i h p hpi hpr
     obtain ⟨nm, r, k, ks⟩ := s'
     simp only [Ix] at h3
     have hk := mem_kids hlt hpe
     rw [h3.2.1] at hk
     have := mem_offs_lt hk
     simp only [Sh.size] at h4
     omega
theorem chain_range {l : List Fl} {s : Sh} {i : Nat} (h : Ix l (fun v => kidsOf (par l) v) i s) (hn : i + s.size ≤ (par l).length) {lf : Nat} (hlf : lf < (par l).length) : i ∈ Go.Shr.chain (par l) lf ↔ i ≤ lf ∧ lf < i + s.size :=
 ⟨fun hm => ⟨chain_le _ _ _ hm, chain_out h lf hlf hm⟩, fun hr => chain_in s i h hn lf hr.1 hr.2⟩
def noneL (lf o : Nat) (r d : Nat) : List Sh → List Cel
 | [] => []
 | s :: q => noneC lf o s r d ++ noneL lf (o + s.size) r d q
theorem noneL_eq (lf : Nat) (r d : Nat) : ∀ (ks : List Sh) (o : Nat), noneL lf o r d ks = if o ≤ lf ∧ lf < o + shSizes ks then [⟨r, d, none⟩] else []
 | [], o => by
  rw [if_neg (show ¬ (o ≤ lf ∧ lf < o + shSizes []) by simp only [shSizes]; omega)]; rfl
 | s :: q, o => by
  have hs : 1 ≤ s.size := by cases s; simp only [Sh.size]; omega
  have e : shSizes (s :: q) = s.size + shSizes q := rfl
  rw [e]
  simp only [noneL]
  rw [noneL_eq lf r d q]
  unfold noneC
  by_cases h1 : o ≤ lf ∧ lf < o + s.size
  ·rw [if_pos h1, if_neg (show ¬ (o + s.size ≤ lf ∧ lf < o + s.size + shSizes q) by omega), if_pos (show o ≤ lf ∧ lf < o + (s.size + shSizes q) by omega)]; rfl
  ·rw [if_neg h1]
   by_cases h2 : o + s.size ≤ lf ∧ lf < o + s.size + shSizes q
   ·rw [if_pos h2, if_pos (show o ≤ lf ∧ lf < o + (s.size + shSizes q) by omega)]; rfl
   ·rw [if_neg h2, if_neg (show ¬ (o ≤ lf ∧ lf < o + (s.size + shSizes q)) by omega)]; rfl
theorem noneC_group {lf i : Nat} {nm : ByteArray} {rp kd : Int} {ks : List Sh} {r d : Nat} (h : lf ≠ i) : noneC lf i (.mk nm rp kd ks) r d = noneL lf (i + 1) r d ks := by
 rw [noneL_eq]
 unfold noneC
 have e : (Sh.mk nm rp kd ks).size = 1 + shSizes ks := rfl
 rw [e]
 by_cases h1 : i ≤ lf ∧ lf < i + (1 + shSizes ks)
 ·rw [if_pos h1, if_pos (show i + 1 ≤ lf ∧ lf < i + 1 + shSizes ks by omega)]
 ·rw [if_neg h1, if_neg (show ¬ (i + 1 ≤ lf ∧ lf < i + 1 + shSizes ks) by omega)]
theorem noneL_snoc {lf r d : Nat} : ∀ (done : List Sh) (o : Nat) (s : Sh), noneL lf o r d (done ++ [s]) = noneL lf o r d done ++ noneC lf (o + shSizes done) s r d
 | [], o, s => by simp [noneL, shSizes]
 | e :: done, o, s => by
  simp only [List.cons_append, noneL, shSizes]
  rw [noneL_snoc done (o + e.size) s, Nat.add_assoc, List.append_assoc]
theorem noneC_leaf {lf i : Nat} {nm : ByteArray} {rp kd : Int} {r d : Nat} : noneC lf i (.mk nm rp kd []) r d = if i = lf then [⟨r, d, none⟩] else [] := by
 unfold noneC
 have e : (Sh.mk nm rp kd []).size = 1 := rfl
 rw [e]
 by_cases h : i = lf
 ·rw [if_pos (show i ≤ lf ∧ lf < i + 1 by omega), if_pos h]
 ·rw [if_neg (show ¬ (i ≤ lf ∧ lf < i + 1) by omega), if_neg h]
end Go.Proofs.Ytjbkjfefjhbolaa
namespace Go.Proofs.Ytjbkjfefjhbolaa
open Go.RowKit Go.Shr
theorem fldX_nil {g : Nat → Tr → List Cel} {r deep : Nat} {e : List Cel} (he : e = []) : ∀ (x : List Tr), (∀ r', ∀ t ∈ x, g r' t = []) → fldX g r deep e x = []
 | [], _ => he
 | t :: ts, h => by
  simp only [fldX]
  rw [h r t (by simp), List.nil_append, List.flatMap_eq_nil_iff]
  exact fun u hu => h deep u (by simp [hu])
mutual
theorem valC_out {lf : Nat} : ∀ (s : Sh) (i d deep r : Nat) (t : Tr), ¬ (i ≤ lf ∧ lf < i + s.size) → valC lf i d deep r s t = []
 | .mk nm rp kd ks, i, d, deep, r, t, h => by
  simp only [Sh.size] at h
  simp only [valC]
  split
  ·rw [if_neg (by omega)]
  ·exact kidC_out ks (i + 1) d deep r t.kids (by omega)
theorem kidC_out {lf : Nat} : ∀ (ks : List Sh) (o d deep r : Nat) (xs : List (List Tr)), ¬ (o ≤ lf ∧ lf < o + shSizes ks) → kidC lf o d deep r ks xs = []
 | [], o, d, deep, r, xs, h => by simp [kidC]
 | s :: q, o, d, deep, r, [], h => by simp [kidC]
 | s :: q, o, d, deep, r, x :: xs, h => by
  simp only [shSizes] at h
  have hs : 1 ≤ s.size := by cases s; simp only [Sh.size]; omega
  rw [kidC_cons, kidC_out q (o + s.size) d deep r xs (by omega), List.append_nil]
  exact fldX_nil (by unfold noneC; rw [if_neg (by omega)]) x (fun r' t _ => valC_out s o _ _ r' t (by omega))
end
theorem fldC_out {lf : Nat} (s : Sh) (o d deep r : Nat) (x : List Tr) (h : ¬ (o ≤ lf ∧ lf < o + s.size)) : fldC lf o d deep r s x = [] :=
 fldX_nil (by unfold noneC; rw [if_neg h]) x (fun r' t _ => valC_out s o _ _ r' t h)
theorem noneC_len (lf o : Nat) (s : Sh) (r d : Nat) : (noneC lf o s r d).length ≤ 1 := by unfold noneC; split <;> simp
def rowsC (lf : Nat) (sh : Sh) (rows : List Tr) : List Cel := rows.flatMap (valC lf 0 0 0 0 sh)
theorem rowsC_snoc (lf : Nat) (sh : Sh) (rows : List Tr) (t : Tr) : rowsC lf sh (rows ++ [t]) = rowsC lf sh rows ++ valC lf 0 0 0 0 sh t := by simp [rowsC]
def manyC (lfs : List Nat) (sh : Sh) (rows : List Tr) : Bool := lfs.any fun lf => decide (4000 < (rowsC lf sh rows).length)
def colsE (l : List Fl) (sh : Sh) (rows : List Tr) : Int :=
 if 200 < rows.length then 4 else if firstE (rows.map fun t => fitT l (KF l) t 0) ≠ 0 then firstE (rows.map fun t => fitT l (KF l) t 0) else if manyC (leafs l l.length) sh rows = true then 4 else 0
theorem firstE_zero {es : List Int} : firstE es = 0 ↔ ∀ e ∈ es, e = 0 := by
 induction es with
 | nil => simp [firstE]
 | cons e r ih =>
  simp only [firstE]
  split
  ·rename_i h; rw [ih]; simp [h]
  ·rename_i h; simp [h]
def celR (L : List Cel) : List Value := L.map fun c => .int .i64 (c.r : Int)
def celD (L : List Cel) : List Value := L.map fun c => .int .i64 (c.d : Int)
def vcs (L : List Vc) : List Value := L.flatMap fun x => [.int .i64 x.n, .string x.s]
def celV (L : List Cel) : List Vc := L.filterMap (·.v)
theorem celV_le (L : List Cel) : (celV L).length ≤ L.length := List.length_filterMap_le _ _
theorem celR_snoc (L : List Cel) (c : Cel) : celR (L ++ [c]) = celR L ++ [.int .i64 (c.r : Int)] := by simp [celR]
theorem celD_snoc (L : List Cel) (c : Cel) : celD (L ++ [c]) = celD L ++ [.int .i64 (c.d : Int)] := by simp [celD]
theorem celV_some (L : List Cel) (r d : Nat) (v : Vc) : celV (L ++ [⟨r, d, some v⟩]) = celV L ++ [v] := by simp [celV]
theorem celV_none (L : List Cel) (r d : Nat) : celV (L ++ [⟨r, d, none⟩]) = celV L := by simp [celV]
theorem vcs_snoc (L : List Vc) (v : Vc) : vcs (L ++ [v]) = vcs L ++ [.int .i64 v.n, .string v.s] := by simp [vcs]
theorem celR_one (L : List Cel) : ∀ u ∈ celR L, u.oneCell' = true := by
 intro u hu
 simp only [celR, List.mem_map] at hu
 obtain ⟨d, _, rfl⟩ := hu
 rfl
theorem celD_one (L : List Cel) : ∀ u ∈ celD L, u.oneCell' = true := by
 intro u hu
 simp only [celD, List.mem_map] at hu
 obtain ⟨d, _, rfl⟩ := hu
 rfl
theorem vcs_one (L : List Vc) : ∀ u ∈ vcs L, u.oneCell' = true := by
 intro u hu
 simp only [vcs, List.mem_flatMap, List.mem_cons, List.not_mem_nil, or_false] at hu
 obtain ⟨d, _, rfl | rfl⟩ := hu <;> rfl
end Go.Proofs.Ytjbkjfefjhbolaa
