import Derived.Test.YtjbkjfefjhbolaakLeafP
set_option linter.all false
open List renaming getD_eq_getElem?_getD → zLP, mem_cons → zLQ, eq_nil_of_length_eq_zero → zLR, flatMap_cons → zLS, getElem?_eq_getElem → zLU, mem_cons_of_mem → zLV, mem_map → zLW, append_assoc → zLX
open Decidable renaming byContradiction → zLT
namespace Go.Proofs.Ytjbkjfefjhbolaa
open Go.RowKit Go.Shr
theorem zCP {l : List Fl} {K : Int → List Int} {f : Nat → Tr × Nat} {i : Int} (h : ∀ k, yL l K (f k).1 i = 0) : ∀ (m k : Nat), jS l K (mkX f m k).1 i = 0
  | 0, k => by simp [mkX, jS]
  | m + 1, k => by simp only [mkX, jS, h k, zCP h m (f k).2]; simp
theorem zDr {f : Nat → Tr × Nat} : ∀ (m k : Nat), (mkX f m k).1.length = m
  | 0, k => by simp [mkX]
  | m + 1, k => by simp [mkX, zDr m (f k).2]
theorem zAa (x : Int) {m : Int} (h : 0 < m) : 0 ≤ x % m ∧ x % m < m := ⟨Int.emod_nonneg _ (by omega), Int.emod_lt_of_pos _ h⟩
theorem zIi (ns : List Int) (rep : Int) (k : Nat) (h0 : 0 ≤ rep) (h2 : rep ≤ 2) : qN rep (qG ns rep k).1 = 0 := by
  have a1 := zAa (ns.getD k 0) (show (0 : Int) < 2 by decide)
  have a2 := zAa (ns.getD k 0) (show (0 : Int) < 4 by decide)
  unfold qN qG
  by_cases h : rep = 1
  · rw [if_pos h]; dsimp only; rw [if_neg (by omega), if_neg (by omega)]
  · rw [if_neg h]
    by_cases h' : rep = 2
    · rw [if_pos h']; dsimp only; rw [if_neg (by omega), if_neg (by omega)]
    · rw [if_neg h']; dsimp only; rw [if_neg (by omega), if_neg (by omega)]
theorem zDo : (⟨#[]⟩ : ByteArray).toList = [] := by decide +kernel
mutual
theorem zHE {l : List Fl} {K : Int → List Int} (ns : List Int) : ∀ (s : Sh) (i : Nat) (k : Nat), Ix l K i s → zR s → yL l K (mkT ns s k).1 i = 0
  | .mk nm rp kd ks, i, k, hi, hg => by
    simp only [Ix] at hi
    simp only [zR] at hg
    obtain ⟨h1, h2, h3⟩ := hi
    have hf : jX l (i : Int) = ⟨nm, rp, kd, ks.length⟩ := by simp [jX, h1]
    rw [zBg, hf]
    dsimp only
    have a1 := zAa (ns.getD k 0) (show (0 : Int) < 2 by decide)
    have a2 := zAa (ns.getD k 0) (show (0 : Int) < 300 by decide)
    have a3 := zAa (ns.getD k 0) (show (0 : Int) < 9 by decide)
    by_cases hk : kd = 0
    · subst hk
      have e : (mkT ns (.mk nm rp 0 ks) k).1 = .mk 0 ⟨#[]⟩ (mkK ns ks (yC ns k)).1 := by
        rw [mkT, if_neg (by decide), if_neg (by decide), if_neg (by decide), if_neg (by decide)]
      rw [e, if_neg (fun h => h rfl)]
      have hkk := zHF ns ks (i + 1) (yC ns k) h3 hg.2.2.2.2.2.2
      rw [if_neg (by rintro (h | h | h)
                     · exact h rfl
                     · exact h zDo
                     · rw [h2, jU] at h; exact h hkk.2)]
      show zAi l K (mkK ns ks (yC ns k)).1 (K i) = 0
      rw [h2]; exact hkk.1
    · rw [if_pos hk, mkT]
      have hl : ∀ (n : Int) (s : ByteArray), ¬ ((kd = 4 ∧ n ≠ 0) ∨ (kd ≠ 4 ∧ s.toList ≠ [])) → jM kd (Tr.mk n s []) = if kd = 1 then (if n < 0 ∨ 1 < n then 14 else 0) else if kd = 2 then (if n < -2147483648 ∨ 2147483647 < n then 14 else 0) else if kd = 3 then 0 else if 100 < s.size then 5 else 0 := fun n s h => by
        unfold jM
        rw [if_neg (by simpa [Tr.n, Tr.s, Tr.kids] using h)]
        rfl
      by_cases k1 : kd = 1
      · rw [if_pos k1]; dsimp only; rw [hl _ _ (by rw [zDo]; simp; omega), if_pos k1, if_neg (by omega)]
      · rw [if_neg k1]
        by_cases k2 : kd = 2
        · rw [if_pos k2]; dsimp only; rw [hl _ _ (by rw [zDo]; simp; omega), if_neg k1, if_pos k2, if_neg (by omega)]
        · rw [if_neg k2]
          by_cases k3 : kd = 3
          · rw [if_pos k3]; dsimp only; rw [hl _ _ (by rw [zDo]; simp; omega), if_neg k1, if_neg k2, if_pos k3]
          · rw [if_neg k3]
            have k4 : kd = 4 := by omega
            rw [if_pos k4]; dsimp only
            have hsz : (abc.extract 0 (ns.getD k 0 % 9).toNat).size ≤ 100 := by
              rw [ByteArray.size_extract]; have : abc.size = 12 := by decide
              omega
            rw [hl _ _ (by simp [k4]), if_neg k1, if_neg k2, if_neg k3, if_neg (by omega)]
theorem zHF {l : List Fl} {K : Int → List Int} (ns : List Int) : ∀ (ks : List Sh) (i : Nat) (k : Nat), IxL l K i ks → yG ks → zAi l K (mkK ns ks k).1 (yX i ks) = 0 ∧ (mkK ns ks k).1.length = ks.length
  | [], i, k, _, _ => by simp [mkK, zAi]
  | s :: r, i, k, hi, hg => by
    simp only [IxL] at hi
    simp only [yG] at hg
    have h1 := zCP (f := mkT ns s) (fun k => zHE ns s i k hi.1 hg.1) (qG ns s.rep k).1 (qG ns s.rep k).2
    have h2 := zHF ns r (i + s.size) (mkX (mkT ns s) (qG ns s.rep k).1 (qG ns s.rep k).2).2 hi.2 hg.2
    have hf : (jX l (i : Int)).rep = s.rep := by
      obtain ⟨nm, rp, kd, ks⟩ := s
      have := hi.1; simp only [Ix] at this
      simp [jX, this.1, Sh.rep]
    have hr : qN s.rep (qG ns s.rep k).1 = 0 := by
      obtain ⟨nm, rp, kd, ks⟩ := s
      have := hg.1; simp only [zR] at this
      exact zIi ns rp k this.1 this.2.1
    simp only [mkK, yX, List.length_cons, h2.2]
    refine ⟨?_, trivial⟩
    rw [zAp]
    simp only [List.headD_cons, List.tail_cons, qQ, hf, zDr, hr, h1]
    simpa using h2.1
end
theorem Sch.fit {l : List Fl} {sh : Sh} (h : Sch l sh) (ns : List Int) : yL l (KF l) (zBX sh ns) 0 = 0 := zHE ns sh 0 0 h.ix h.good
def qW (rep : Int) (m : Nat) : Prop := if rep = 1 then m ≤ 1 else if rep = 2 then m ≤ 50 else m = 1
mutual
def okT : Sh → Tr → Prop
  | .mk _ _ kind ks, t =>
    if kind = 1 then (t.n = 0 ∨ t.n = 1) ∧ t.s = ⟨#[]⟩ ∧ t.kids = []
    else if kind = 2 then (-2147483648 ≤ t.n ∧ t.n ≤ 2147483647) ∧ t.s = ⟨#[]⟩ ∧ t.kids = []
    else if kind = 3 then (-9223372036854775808 ≤ t.n ∧ t.n ≤ 9223372036854775807) ∧ t.s = ⟨#[]⟩ ∧ t.kids = []
    else if kind = 4 then t.n = 0 ∧ t.s.size ≤ 100 ∧ t.kids = []
    else t.n = 0 ∧ t.s = ⟨#[]⟩ ∧ okK ks t.kids
def okK : List Sh → List (List Tr) → Prop
  | [], xs => xs = []
  | _ :: _, [] => False
  | s :: r, x :: xs => qW s.rep x.length ∧ (∀ t ∈ x, okT s t) ∧ okK r xs
end
theorem zFc {f : Nat → Tr × Nat} {Q : Tr → Prop} (h : ∀ k, Q (f k).1) : ∀ (m k : Nat), ∀ t ∈ (mkX f m k).1, Q t
  | 0, k, t, ht => by simp [mkX] at ht
  | m + 1, k, t, ht => by
    simp only [mkX, zLQ] at ht
    rcases ht with rfl | ht
    · exact h k
    · exact zFc h m _ t ht
theorem zKd {ns : List Int} (h : ∀ z ∈ ns, (Lit.int .i64 z).wf = true) (k : Nat) : -9223372036854775808 ≤ ns.getD k 0 ∧ ns.getD k 0 ≤ 9223372036854775807 := by
  rw [zLP]
  cases hk : ns[k]? with
  | none => simp
  | some z =>
    have := h z (List.mem_of_getElem? hk)
    simp [Lit.wf, IntKind.min, IntKind.max, IntKind.bits, IntKind.signed] at this
    simp; omega
theorem zJh (ns : List Int) (rep : Int) (k : Nat) : qW rep (qG ns rep k).1 := by
  have a1 := zAa (ns.getD k 0) (show (0 : Int) < 2 by decide)
  have a2 := zAa (ns.getD k 0) (show (0 : Int) < 4 by decide)
  unfold qW qG
  by_cases h : rep = 1
  · rw [if_pos h, if_pos h]; dsimp only; omega
  · rw [if_neg h, if_neg h]
    by_cases h' : rep = 2
    · rw [if_pos h', if_pos h']; dsimp only; omega
    · rw [if_neg h', if_neg h']
mutual
theorem zJs {ns : List Int} (hw : ∀ z ∈ ns, (Lit.int .i64 z).wf = true) : ∀ (s : Sh) (k : Nat), okT s (mkT ns s k).1
  | .mk nm rp kd ks, k => by
    have a1 := zAa (ns.getD k 0) (show (0 : Int) < 2 by decide)
    have a2 := zAa (ns.getD k 0) (show (0 : Int) < 300 by decide)
    have a3 := zAa (ns.getD k 0) (show (0 : Int) < 9 by decide)
    have a4 := zKd hw k
    rw [mkT, okT]
    by_cases k1 : kd = 1
    · rw [if_pos k1, if_pos k1]; exact ⟨by simp only [Tr.n]; omega, rfl, rfl⟩
    · rw [if_neg k1, if_neg k1]
      by_cases k2 : kd = 2
      · rw [if_pos k2, if_pos k2]; exact ⟨by simp only [Tr.n]; omega, rfl, rfl⟩
      · rw [if_neg k2, if_neg k2]
        by_cases k3 : kd = 3
        · rw [if_pos k3, if_pos k3]; exact ⟨a4, rfl, rfl⟩
        · rw [if_neg k3, if_neg k3]
          by_cases k4 : kd = 4
          · rw [if_pos k4, if_pos k4]
            refine ⟨rfl, ?_, rfl⟩
            have : abc.size = 12 := by decide
            simp only [Tr.s, ByteArray.size_extract]; omega
          · rw [if_neg k4, if_neg k4]
            exact ⟨rfl, rfl, zJt hw ks _⟩
theorem zJt {ns : List Int} (hw : ∀ z ∈ ns, (Lit.int .i64 z).wf = true) : ∀ (ks : List Sh) (k : Nat), okK ks (mkK ns ks k).1
  | [], k => by simp [mkK, okK]
  | s :: r, k => by
    simp only [mkK, okK, zDr]
    exact ⟨zJh ns s.rep k, zFc (fun k => zJs hw s k) _ _, zJt hw r _⟩
end
theorem zJY {ns : List Int} (hw : ∀ z ∈ ns, (Lit.int .i64 z).wf = true) (sh : Sh) : okT sh (zBX sh ns) := zJs hw sh 0
theorem zJU {rep : Int} {m : Nat} (h : qW rep m) : qN rep m = 0 := by
  unfold qW at h
  unfold qN
  by_cases h1 : rep = 1
  · rw [if_pos h1] at h
    rw [if_neg (by omega), if_neg (by omega)]
  · rw [if_neg h1] at h
    by_cases h3 : rep = 2
    · rw [if_pos h3] at h
      rw [if_neg (by omega), if_neg (by omega)]
    · rw [if_neg h3] at h
      rw [if_neg (by omega), if_neg (by omega)]
theorem zHG {l : List Fl} {K : Int → List Int} {i : Int} : ∀ (x : List Tr), (∀ t ∈ x, yL l K t i = 0) → jS l K x i = 0
  | [], _ => by simp [jS]
  | t :: r, h => by
    have h1 := h t List.mem_cons_self
    have h2 := zHG r (fun t ht => h t (zLV _ ht))
    simp only [jS, h1, h2]; simp
mutual
theorem zHC {l : List Fl} {K : Int → List Int} : ∀ (s : Sh) (i : Nat) (t : Tr), Ix l K i s → zR s → okT s t → yL l K t i = 0
  | .mk nm rp kd ks, i, t, hi, hg, ht => by
    simp only [Ix] at hi
    simp only [zR] at hg
    obtain ⟨h1, h2, h3⟩ := hi
    have hf : jX l (i : Int) = ⟨nm, rp, kd, ks.length⟩ := by simp [jX, h1]
    rw [zBg, hf]
    rw [okT] at ht
    dsimp only
    by_cases hk : kd = 0
    · subst hk
      rw [if_neg (by decide), if_neg (by decide), if_neg (by decide), if_neg (by decide)] at ht
      obtain ⟨t1, t2, t3⟩ := ht
      have hkk := zHD ks (i + 1) t.kids h3 hg.2.2.2.2.2.2 t3
      rw [if_neg (fun h => h rfl)]
      rw [if_neg (by rintro (h | h | h)
                     · exact h t1
                     · rw [t2] at h; exact h zDo
                     · rw [h2, jU] at h; exact h hkk.2)]
      rw [h2]; exact hkk.1
    · rw [if_pos hk]
      by_cases k1 : kd = 1
      · rw [if_pos k1] at ht
        obtain ⟨t1, t2, t3⟩ := ht
        unfold jM
        rw [if_neg (by rw [t2, t3, zDo]; simp; omega), if_pos k1, if_neg (by omega)]
      · rw [if_neg k1] at ht
        by_cases k2 : kd = 2
        · rw [if_pos k2] at ht
          obtain ⟨t1, t2, t3⟩ := ht
          unfold jM
          rw [if_neg (by rw [t2, t3, zDo]; simp; omega), if_neg k1, if_pos k2, if_neg (by omega)]
        · rw [if_neg k2] at ht
          by_cases k3 : kd = 3
          · rw [if_pos k3] at ht
            obtain ⟨t1, t2, t3⟩ := ht
            unfold jM
            rw [if_neg (by rw [t2, t3, zDo]; simp; omega), if_neg k1, if_neg k2, if_pos k3]
          · rw [if_neg k3] at ht
            have k4 : kd = 4 := by omega
            rw [if_pos k4] at ht
            obtain ⟨t1, t2, t3⟩ := ht
            unfold jM
            rw [if_neg (by rw [t1, t3]; simp [k4]), if_neg k1, if_neg k2, if_neg k3, if_neg (by omega)]
theorem zHD {l : List Fl} {K : Int → List Int} : ∀ (ks : List Sh) (i : Nat) (xs : List (List Tr)), IxL l K i ks → yG ks → okK ks xs → zAi l K xs (yX i ks) = 0 ∧ xs.length = ks.length
  | [], i, xs, _, _, h => by rw [okK] at h; subst h; simp [zAi]
  | s :: r, i, [], _, _, h => by rw [okK] at h; exact h.elim
  | s :: r, i, x :: xs, hi, hg, h => by
    simp only [IxL] at hi
    simp only [yG] at hg
    rw [okK] at h
    obtain ⟨g1, g2, g3⟩ := h
    have h1 := zHG (l := l) (K := K) (i := (i : Int)) x (fun t ht => zHC s i t hi.1 hg.1 (g2 t ht))
    have h2 := zHD r (i + s.size) xs hi.2 hg.2 g3
    have hf : (jX l (i : Int)).rep = s.rep := by
      obtain ⟨nm, rp, kd, ks⟩ := s
      have := hi.1; simp only [Ix] at this
      simp [jX, this.1, Sh.rep]
    have hr : qN s.rep x.length = 0 := by
      obtain ⟨nm, rp, kd, ks⟩ := s
      have := hg.1; simp only [zR] at this
      exact zJU g1
    simp only [yX, List.length_cons, h2.2]
    refine ⟨?_, trivial⟩
    rw [zAp]
    simp only [List.headD_cons, List.tail_cons, qQ, hf, hr, h1]
    simpa using h2.1
end
structure Vc where
 n : Int
 s : ByteArray
structure Cel where
 r : Nat
 d : Nat
 v : Option Vc
def dmI (rep : Int) : Nat := if rep = 0 then 0 else 1
def rmI (rep : Int) : Nat := if rep = 2 then 1 else 0
def xK (lf o : Nat) (s : Sh) (r d : Nat) : List Cel := if o ≤ lf ∧ lf < o + s.size then [⟨r, d, none⟩] else []
def zB6 (g : Nat → Tr → List Cel) (r deep : Nat) (e : List Cel) : List Tr → List Cel
 | [] => e
 | t :: ts => g r t ++ ts.flatMap (g deep)
mutual
def yK (lf i : Nat) (d deep r : Nat) : Sh → Tr → List Cel
 | .mk _ _ kd ks, t => if kd ≠ 0 then (if i = lf then [⟨r, d, some ⟨t.n, t.s⟩⟩] else []) else qB lf (i + 1) d deep r ks t.kids
def qB (lf o : Nat) (d deep r : Nat) : List Sh → List (List Tr) → List Cel
 | [], _ => []
 | _ :: _, [] => []
 | s :: q, x :: xs => zB6 (fun r' u => yK lf o (d + dmI s.rep) (deep + rmI s.rep) r' s u) r (deep + rmI s.rep) (xK lf o s r d) x ++ qB lf (o + s.size) d deep r q xs
end
def jO (lf o : Nat) (d deep r : Nat) (s : Sh) (x : List Tr) : List Cel := zB6 (fun r' u => yK lf o (d + dmI s.rep) (deep + rmI s.rep) r' s u) r (deep + rmI s.rep) (xK lf o s r d) x
theorem xH (lf o d deep r : Nat) (s : Sh) (q : List Sh) (x : List Tr) (xs : List (List Tr)) : qB lf o d deep r (s :: q) (x :: xs) = jO lf o d deep r s x ++ qB lf (o + s.size) d deep r q xs := rfl
theorem zCA {lf d deep r : Nat} : ∀ (done : List Sh) (A : List (List Tr)) (o : Nat) (s : Sh) (x : List Tr), A.length = done.length →
  qB lf o d deep r (done ++ [s]) (A ++ [x]) = qB lf o d deep r done A ++ jO lf (o + zC done) d deep r s x
 | [], A, o, s, x, h => by
  obtain rfl := zLR h
  simp [qB, zC, jO]
 | e :: done, [], o, s, x, h => by simp at h
 | e :: done, a :: A, o, s, x, h => by
  have ih := zCA (lf := lf) (d := d) (deep := deep) (r := r) done A (o + e.size) s x (by simpa using h)
  simp only [List.cons_append, xH, zC]
  rw [ih, Nat.add_assoc, zLX]
def jW (lf o : Nat) (d deep r : Nat) (s : Sh) (x : List Tr) (g : Nat) : List Cel :=
 (x.take g).zipIdx.flatMap fun p => yK lf o (d + dmI s.rep) (deep + rmI s.rep) (if p.2 = 0 then r else deep + rmI s.rep) s p.1
theorem zCF {lf o d deep r : Nat} {s : Sh} {x : List Tr} {g : Nat} (h : g < x.length) : jW lf o d deep r s x (g + 1) = jW lf o d deep r s x g ++ yK lf o (d + dmI s.rep) (deep + rmI s.rep) (if g = 0 then r else deep + rmI s.rep) s x[g] := by
 unfold jW
 rw [List.take_succ_eq_append_getElem h, List.zipIdx_append, List.flatMap_append]
 simp [List.length_take, Nat.min_eq_left (Nat.le_of_lt h)]
theorem wZ {α β : Type} {f : α → List β} : ∀ (ts : List α) (k : Nat) (g : α → List β), (ts.zipIdx (k + 1)).flatMap (fun p => if p.2 = 0 then g p.1 else f p.1) = ts.flatMap f
 | [], _, _ => rfl
 | t :: ts, k, g => by
  rw [List.zipIdx_cons, zLS, zLS, wZ ts (k + 1) g]
  simp
theorem zBw {lf o d deep r : Nat} {s : Sh} {x : List Tr} (h : x ≠ []) : jW lf o d deep r s x x.length = jO lf o d deep r s x := by
 cases x with
 | nil => exact absurd rfl h
 | cons t ts =>
  unfold jW jO
  rw [List.take_length, List.zipIdx_cons, zLS]
  simp only [zB6, if_true]
  congr 1
  have := wZ (f := fun u => yK lf o (d + dmI s.rep) (deep + rmI s.rep) (deep + rmI s.rep) s u) ts 0 (fun u => yK lf o (d + dmI s.rep) (deep + rmI s.rep) r s u)
  rw [← this]
  congr 1
  funext p
  split
  ·rfl
  ·rfl
theorem zCh {lf o d deep r : Nat} {s : Sh} : jO lf o d deep r s [] = xK lf o s r d := rfl
mutual
def shT : Sh → Tr → Prop
 | .mk _ _ kd ks, t => kd = 0 → shK ks t.kids
def shK : List Sh → List (List Tr) → Prop
 | [], xs => xs = []
 | _ :: _, [] => False
 | s :: r, x :: xs => x.length ≤ 50 ∧ (∀ t ∈ x, shT s t) ∧ shK r xs
end
theorem zJV {rep : Int} {m : Nat} (h : qN rep m = 0) : m ≤ 50 := by
 unfold qN at h
 split at h
 ·exact absurd h (by decide)
 ·split at h
  ·exact absurd h (by decide)
  ·omega
theorem zCi {l : List Fl} {K : Int → List Int} {i : Int} : ∀ {x : List Tr}, jS l K x i = 0 → ∀ t ∈ x, yL l K t i = 0
 | [], _, t, ht => by cases ht
 | u :: r, h, t, ht => by
  simp only [jS] at h
  have hu : yL l K u i = 0 := by
   by_cases h0 : yL l K u i = 0
   ·exact h0
   ·rw [if_pos h0] at h; exact h
  rw [if_neg (fun h0 => h0 hu)] at h
  rcases zLQ.1 ht with rfl | ht
  ·exact hu
  ·exact zCi h t ht
mutual
theorem zE8 {l : List Fl} {K : Int → List Int} : ∀ (s : Sh) (i : Nat) (t : Tr), Ix l K i s → yL l K t i = 0 → shT s t
 | .mk nm rp kd ks, i, t, hi, ht => by
  simp only [Ix] at hi
  obtain ⟨h1, h2, h3⟩ := hi
  have hf : jX l (i : Int) = ⟨nm, rp, kd, ks.length⟩ := by simp [jX, h1]
  rw [zBg, hf] at ht
  dsimp only at ht
  simp only [shT]
  intro hk
  subst hk
  rw [if_neg (fun h => h rfl)] at ht
  split at ht
  ·exact absurd ht (by decide)
  ·rename_i hn
   rw [h2] at ht hn
   refine zHj ks (i + 1) t.kids h3 ?_ ht
   rw [jU] at hn
   omega
theorem zHj {l : List Fl} {K : Int → List Int} : ∀ (ks : List Sh) (i : Nat) (xs : List (List Tr)), IxL l K i ks → xs.length = ks.length → zAi l K xs (yX i ks) = 0 → shK ks xs
 | [], i, xs, _, hl, _ => by rw [shK]; exact zLR hl
 | s :: r, i, [], _, hl, _ => by simp at hl
 | s :: r, i, x :: xs, hi, hl, h => by
  simp only [IxL] at hi
  rw [zAp] at h
  split at h
  ·rename_i hn; exact absurd h hn
  rename_i hn
  have ha : qQ l K x (i : Int) = 0 := zLT hn
  unfold qQ at ha
  split at ha
  ·rename_i hn2; exact absurd ha hn2
  rename_i hn2
  have hr : qN (jX l (i : Int)).rep x.length = 0 := zLT hn2
  rw [shK]
  exact ⟨zJV hr, fun t ht => zE8 s i t hi.1 (zCi ha t ht), zHj r (i + s.size) xs hi.2 (by simpa using hl) h⟩
end
theorem zE9 : ∀ {ks : List Sh} {xs : List (List Tr)}, shK ks xs → xs.length = ks.length
 | [], xs, h => by rw [shK] at h; subst h; rfl
 | s :: r, [], h => by rw [shK] at h; exact h.elim
 | s :: r, x :: xs, h => by rw [shK] at h; simp [zE9 h.2.2]
theorem zFa : ∀ {ks : List Sh} {xs : List (List Tr)} (_ : shK ks xs) (k : Nat) (hk : k < ks.length) (hx : k < xs.length), xs[k].length ≤ 50 ∧ ∀ t ∈ xs[k], shT ks[k] t
 | s :: r, x :: xs, h, 0, _, _ => by rw [shK] at h; exact ⟨h.1, h.2.1⟩
 | s :: r, x :: xs, h, k + 1, h1, h2 => by rw [shK] at h; exact zFa h.2.2 k (by simpa using h1) (by simpa using h2)
mutual
theorem zKx {l : List Fl} {K : Int → List Int} : ∀ (s : Sh) (i : Nat), Ix l K i s → ∀ (j : Nat), i ≤ j → j < i + s.size → ∃ s', Ix l K j s' ∧ j + s'.size ≤ i + s.size
 | .mk nm r k ks, i, h, j, h1, h2 => by
  by_cases e : j = i
  ·subst e; exact ⟨_, h, Nat.le_refl _⟩
  ·simp only [Ix] at h
   simp only [Sh.size] at h2 ⊢
   obtain ⟨s', h3, h4⟩ := zJy ks (i + 1) h.2.2 j (by omega) (by omega)
   exact ⟨s', h3, by omega⟩
theorem zJy {l : List Fl} {K : Int → List Int} : ∀ (ks : List Sh) (i : Nat), IxL l K i ks → ∀ (j : Nat), i ≤ j → j < i + zC ks → ∃ s', Ix l K j s' ∧ j + s'.size ≤ i + zC ks
 | [], i, _, j, h1, h2 => by simp only [zC] at h2; omega
 | s :: r, i, h, j, h1, h2 => by
  simp only [IxL] at h
  simp only [zC] at h2 ⊢
  by_cases e : j < i + s.size
  ·obtain ⟨s', h3, h4⟩ := zKx s i h.1 j h1 e
   exact ⟨s', h3, by omega⟩
  ·obtain ⟨s', h3, h4⟩ := zJy r (i + s.size) h.2 j (by omega) (by omega)
   exact ⟨s', h3, by omega⟩
end
theorem zCL : ∀ {ks : List Sh} {o : Nat} {j : Int}, j ∈ yX o ks → (o : Int) ≤ j ∧ j < ((o + zC ks : Nat) : Int)
 | [], o, j, h => by simp [yX] at h
 | s :: r, o, j, h => by
  have hs : 1 ≤ s.size := by cases s; simp only [Sh.size]; omega
  simp only [yX, zLQ] at h
  simp only [zC]
  rcases h with h | h
  ·omega
  ·have := zCL h; omega
theorem zCc {l : List Fl} {j i : Nat} (h : (j : Int) ∈ zK (par l) (i : Int)) : ∃ hj : j < (par l).length, (par l)[j] = (i : Int) := by
 have h1 := zDw h
 have hj : j < (par l).length := by omega
 refine ⟨hj, ?_⟩
 have := h1.2.2
 rw [zLP, Int.toNat_natCast, zLU hj] at this
 exact this
theorem zIU {l : List Fl} {j i : Nat} (hj : j < (par l).length) (h : (par l)[j] = (i : Int)) : (j : Int) ∈ zK (par l) (i : Int) := by
 unfold zK
 rw [zLW]
 refine ⟨j, ?_, rfl⟩
 rw [List.mem_filter]
 refine ⟨List.mem_range.2 hj, ?_⟩
 rw [zLP, zLU hj]
 simp [h]
mutual
theorem zDU {l : List Fl} : ∀ (s : Sh) (i : Nat), Ix l (fun v => zK (par l) v) i s → i + s.size ≤ (par l).length → ∀ lf, i ≤ lf → lf < i + s.size → i ∈ Go.Shr.chain (par l) lf
 | .mk nm r k ks, i, h, hn, lf, h1, h2 => by
  by_cases e : lf = i
  ·subst e; exact zAu _ _
  ·simp only [Ix] at h
   simp only [Sh.size] at h2 hn
   obtain ⟨o, ho, hoc⟩ := zES ks (i + 1) h.2.2 (by omega) lf (by omega) (by omega)
   rw [← h.2.1] at ho
   obtain ⟨hol, hop⟩ := zCc ho
   obtain ⟨A, hA, _⟩ := zBH (par l) o lf hoc
   rw [hA]
   refine List.mem_append_right _ ?_
   rw [xU (fun j hj => yI l j hj) hol, hop, yF]
   exact zLV _ (zAu _ _)
theorem zES {l : List Fl} : ∀ (ks : List Sh) (o : Nat), IxL l (fun v => zK (par l) v) o ks → o + zC ks ≤ (par l).length → ∀ lf, o ≤ lf → lf < o + zC ks → ∃ j : Nat, (j : Int) ∈ yX o ks ∧ j ∈ Go.Shr.chain (par l) lf
 | [], o, _, _, lf, h1, h2 => by simp only [zC] at h2; omega
 | s :: r, o, h, hn, lf, h1, h2 => by
  simp only [IxL] at h
  simp only [zC] at h2 hn
  by_cases e : lf < o + s.size
  ·exact ⟨o, by simp [yX], zDU s o h.1 (by omega) lf h1 e⟩
  ·obtain ⟨j, h3, h4⟩ := zES r (o + s.size) h.2 (by omega) lf (by omega) (by omega)
   exact ⟨j, by simp [yX, h3], h4⟩
end
theorem zIl {l : List Fl} {s : Sh} {i : Nat} (h : Ix l (fun v => zK (par l) v) i s) : ∀ (lf : Nat), lf < (par l).length → i ∈ Go.Shr.chain (par l) lf → lf < i + s.size := by
 intro lf
 induction lf using Nat.strongRecOn with
 | _ lf ih =>
  intro hlt hm
  have hs : 1 ≤ s.size := by cases s; simp only [Sh.size]; omega
  by_cases e : lf = i
  ·omega
  ·have hb := yI l lf hlt
   rw [xU (fun j hj => yI l j hj) hlt] at hm
   rcases zLQ.1 hm with h1 | h1
   ·omega
   ·by_cases hp : (par l)[lf] < 0
    ·rw [qC _ hp] at h1; cases h1
    ·obtain ⟨p, hpe⟩ : ∃ p : Nat, (par l)[lf] = (p : Int) := ⟨(par l)[lf].toNat, by omega⟩
     rw [hpe, yF] at h1
     have hplt : p < lf := by omega
     have hpr := ih p hplt (by omega) h1
     have hpi := zAY _ _ _ h1
     obtain ⟨s', h3, h4⟩ := zKx s i h p hpi hpr
     obtain ⟨nm, r, k, ks⟩ := s'
     simp only [Ix] at h3
     have hk := zIU hlt hpe
     rw [h3.2.1] at hk
     have := zCL hk
     simp only [Sh.size] at h4
     omega
theorem zCR {l : List Fl} {s : Sh} {i : Nat} (h : Ix l (fun v => zK (par l) v) i s) (hn : i + s.size ≤ (par l).length) {lf : Nat} (hlf : lf < (par l).length) : i ∈ Go.Shr.chain (par l) lf ↔ i ≤ lf ∧ lf < i + s.size :=
 ⟨fun hm => ⟨zAY _ _ _ hm, zIl h lf hlf hm⟩, fun hr => zDU s i h hn lf hr.1 hr.2⟩
def wF (lf o : Nat) (r d : Nat) : List Sh → List Cel
 | [] => []
 | s :: q => xK lf o s r d ++ wF lf (o + s.size) r d q
theorem zF2 (lf : Nat) (r d : Nat) : ∀ (ks : List Sh) (o : Nat), wF lf o r d ks = if o ≤ lf ∧ lf < o + zC ks then [⟨r, d, none⟩] else []
 | [], o => by
  rw [if_neg (show ¬ (o ≤ lf ∧ lf < o + zC []) by simp only [zC]; omega)]; rfl
 | s :: q, o => by
  have hs : 1 ≤ s.size := by cases s; simp only [Sh.size]; omega
  have e : zC (s :: q) = s.size + zC q := rfl
  rw [e]
  simp only [wF]
  rw [zF2 lf r d q]
  unfold xK
  by_cases h1 : o ≤ lf ∧ lf < o + s.size
  ·rw [if_pos h1, if_neg (show ¬ (o + s.size ≤ lf ∧ lf < o + s.size + zC q) by omega), if_pos (show o ≤ lf ∧ lf < o + (s.size + zC q) by omega)]; rfl
  ·rw [if_neg h1]
   by_cases h2 : o + s.size ≤ lf ∧ lf < o + s.size + zC q
   ·rw [if_pos h2, if_pos (show o ≤ lf ∧ lf < o + (s.size + zC q) by omega)]; rfl
   ·rw [if_neg h2, if_neg (show ¬ (o ≤ lf ∧ lf < o + (s.size + zC q)) by omega)]; rfl
theorem zFG {lf i : Nat} {nm : ByteArray} {rp kd : Int} {ks : List Sh} {r d : Nat} (h : lf ≠ i) : xK lf i (.mk nm rp kd ks) r d = wF lf (i + 1) r d ks := by
 rw [zF2]
 unfold xK
 have e : (Sh.mk nm rp kd ks).size = 1 + zC ks := rfl
 rw [e]
 by_cases h1 : i ≤ lf ∧ lf < i + (1 + zC ks)
 ·rw [if_pos h1, if_pos (show i + 1 ≤ lf ∧ lf < i + 1 + zC ks by omega)]
 ·rw [if_neg h1, if_neg (show ¬ (i + 1 ≤ lf ∧ lf < i + 1 + zC ks) by omega)]
theorem zDp {lf r d : Nat} : ∀ (done : List Sh) (o : Nat) (s : Sh), wF lf o r d (done ++ [s]) = wF lf o r d done ++ xK lf (o + zC done) s r d
 | [], o, s => by simp [wF, zC]
 | e :: done, o, s => by
  simp only [List.cons_append, wF, zC]
  rw [zDp done (o + e.size) s, Nat.add_assoc, zLX]
theorem zGM {lf i : Nat} {nm : ByteArray} {rp kd : Int} {r d : Nat} : xK lf i (.mk nm rp kd []) r d = if i = lf then [⟨r, d, none⟩] else [] := by
 unfold xK
 have e : (Sh.mk nm rp kd []).size = 1 := rfl
 rw [e]
 by_cases h : i = lf
 ·rw [if_pos (show i ≤ lf ∧ lf < i + 1 by omega), if_pos h]
 ·rw [if_neg (show ¬ (i ≤ lf ∧ lf < i + 1) by omega), if_neg h]
theorem zGg {g : Nat → Tr → List Cel} {r deep : Nat} {e : List Cel} (he : e = []) : ∀ (x : List Tr), (∀ r', ∀ t ∈ x, g r' t = []) → zB6 g r deep e x = []
 | [], _ => he
 | t :: ts, h => by
  simp only [zB6]
  rw [h r t (by simp), List.nil_append, List.flatMap_eq_nil_iff]
  exact fun u hu => h deep u (by simp [hu])
mutual
theorem zFO {lf : Nat} : ∀ (s : Sh) (i d deep r : Nat) (t : Tr), ¬ (i ≤ lf ∧ lf < i + s.size) → yK lf i d deep r s t = []
 | .mk nm rp kd ks, i, d, deep, r, t, h => by
  simp only [Sh.size] at h
  simp only [yK]
  split
  ·rw [if_neg (by omega)]
  ·exact wX ks (i + 1) d deep r t.kids (by omega)
theorem wX {lf : Nat} : ∀ (ks : List Sh) (o d deep r : Nat) (xs : List (List Tr)), ¬ (o ≤ lf ∧ lf < o + zC ks) → qB lf o d deep r ks xs = []
 | [], o, d, deep, r, xs, h => by simp [qB]
 | s :: q, o, d, deep, r, [], h => by simp [qB]
 | s :: q, o, d, deep, r, x :: xs, h => by
  simp only [zC] at h
  have hs : 1 ≤ s.size := by cases s; simp only [Sh.size]; omega
  rw [xH, wX q (o + s.size) d deep r xs (by omega), List.append_nil]
  exact zGg (by unfold xK; rw [if_neg (by omega)]) x (fun r' t _ => zFO s o _ _ r' t (by omega))
end
theorem zAX {lf : Nat} (s : Sh) (o d deep r : Nat) (x : List Tr) (h : ¬ (o ≤ lf ∧ lf < o + s.size)) : jO lf o d deep r s x = [] :=
 zGg (by unfold xK; rw [if_neg h]) x (fun r' t _ => zFO s o _ _ r' t h)
theorem zEw (lf o : Nat) (s : Sh) (r d : Nat) : (xK lf o s r d).length ≤ 1 := by unfold xK; split <;> simp
def zS (lf : Nat) (sh : Sh) (rows : List Tr) : List Cel := rows.flatMap (yK lf 0 0 0 0 sh)
theorem zDh (lf : Nat) (sh : Sh) (rows : List Tr) (t : Tr) : zS lf sh (rows ++ [t]) = zS lf sh rows ++ yK lf 0 0 0 0 sh t := by simp [zS]
def zBk (lfs : List Nat) (sh : Sh) (rows : List Tr) : Bool := lfs.any fun lf => decide (4000 < (zS lf sh rows).length)
def yM (l : List Fl) (sh : Sh) (rows : List Tr) : Int :=
 if 200 < rows.length then 4 else if zAd (rows.map fun t => yL l (KF l) t 0) ≠ 0 then zAd (rows.map fun t => yL l (KF l) t 0) else if zBk (zG l l.length) sh rows = true then 4 else 0
theorem zAA {es : List Int} : zAd es = 0 ↔ ∀ e ∈ es, e = 0 := by
 induction es with
 | nil => simp [zAd]
 | cons e r ih =>
  simp only [zAd]
  split
  ·rename_i h; rw [ih]; simp [h]
  ·rename_i h; simp [h]
def zB3 (L : List Cel) : List Value := L.map fun c => .int .i64 (c.r : Int)
def zBO (L : List Cel) : List Value := L.map fun c => .int .i64 (c.d : Int)
def vcs (L : List Vc) : List Value := L.flatMap fun x => [.int .i64 x.n, .string x.s]
def zV (L : List Cel) : List Vc := L.filterMap (·.v)
theorem zFn (L : List Cel) : (zV L).length ≤ L.length := List.length_filterMap_le _ _
theorem zAP (L : List Cel) (c : Cel) : zB3 (L ++ [c]) = zB3 L ++ [.int .i64 (c.r : Int)] := by simp [zB3]
theorem zAQ (L : List Cel) (c : Cel) : zBO (L ++ [c]) = zBO L ++ [.int .i64 (c.d : Int)] := by simp [zBO]
theorem zET (L : List Cel) (r d : Nat) (v : Vc) : zV (L ++ [⟨r, d, some v⟩]) = zV L ++ [v] := by simp [zV]
theorem zEU (L : List Cel) (r d : Nat) : zV (L ++ [⟨r, d, none⟩]) = zV L := by simp [zV]
theorem zFL (L : List Vc) (v : Vc) : vcs (L ++ [v]) = vcs L ++ [.int .i64 v.n, .string v.s] := by simp [vcs]
theorem zJk (L : List Cel) : ∀ u ∈ zB3 L, u.oneCell' = true := by
 intro u hu
 simp only [zB3, zLW] at hu
 obtain ⟨d, _, rfl⟩ := hu
 rfl
theorem zJl (L : List Cel) : ∀ u ∈ zBO L, u.oneCell' = true := by
 intro u hu
 simp only [zBO, zLW] at hu
 obtain ⟨d, _, rfl⟩ := hu
 rfl
theorem zG9 (L : List Vc) : ∀ u ∈ vcs L, u.oneCell' = true := by
 intro u hu
 simp only [vcs, List.mem_flatMap, zLQ, List.not_mem_nil, or_false] at hu
 obtain ⟨d, _, rfl | rfl⟩ := hu <;> rfl
end Go.Proofs.Ytjbkjfefjhbolaa
