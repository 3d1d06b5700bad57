import Derived.Test.YtjbkjfefjhbolaakCol14S
set_option linter.all false
open List renaming length_append → zLP, length_cons → zLR, eq_nil_of_length_eq_zero → zLS, length_take → zLT, length_drop → zLV, take_of_length_le → zLW, flatten_cons → zLX, take_append_drop → zLY, getElem_cons_drop → zLZ, take_succ_eq_append_getElem → zL0, append_nil → zL1, cons_append → zL2, filterMap_append → zL3, flatten_append → zL4, filter_append → zL5
open Decidable renaming byContradiction → zLQ
open Nat renaming le_refl → zLU
namespace Go.Proofs.Ytjbkjfefjhbolaa
open Go.RowKit Go.Shr
mutual
def fsT : Sh → Tr → Prop
  | .mk _ _ kd ks, t => if kd ≠ 0 then t.kids = [] else t.n = 0 ∧ t.s = ByteArray.empty ∧ fsK ks t.kids
def fsK : List Sh → List (List Tr) → Prop
  | [], xs => xs = []
  | _ :: _, [] => False
  | s :: r, x :: xs => qW s.rep x.length ∧ (∀ t ∈ x, fsT s t) ∧ fsK r xs
end
theorem zGF {rep : Int} {m : Nat} (h0 : 0 ≤ rep) (h2 : rep ≤ 2) (h : qN rep m = 0) : qW rep m := by
  unfold qN at h
  split at h
  · exact absurd h (by decide)
  · split at h
    · exact absurd h (by decide)
    · unfold qW
      split
      · omega
      · split <;> omega
theorem zGT {kind : Int} {t : Tr} (h : jM kind t = 0) : t.kids = [] := by
  unfold jM at h
  by_cases hk : t.kids = []
  · exact hk
  · have : t.kids.length ≠ 0 := fun h => hk (zLS h)
    simp [this] at h
    all_goals (try (split at h <;> simp_all))
theorem zJf {s : ByteArray} (h : s.toList = []) : s = ByteArray.empty := by
  rw [ByteArray.toList_eq] at h
  cases s
  simp_all
  rfl
mutual
theorem zEK {l : List Fl} {K : Int → List Int} : ∀ (s : Sh) (i : Nat) (t : Tr), Ix l K i s → zR s → yL l K t i = 0 → fsT s t
  | .mk nm rp kd ks, i, t, hi, hg, ht => by
    simp only [Ix] at hi
    simp only [zR] at hg
    obtain ⟨h1, h2, h3⟩ := hi
    have hf : jX l (i : Int) = ⟨nm, rp, kd, ks.length⟩ := by simp [jX, h1]
    rw [zBg, hf] at ht
    dsimp only at ht
    rw [fsT]
    by_cases hk : kd = 0
    · subst hk
      rw [if_neg (fun h => h rfl)] at ht ⊢
      split at ht
      · exact absurd ht (by decide)
      · rename_i hn
        rw [h2] at ht hn
        have hn1 : t.n = 0 := zLQ fun h => hn (.inl h)
        have hn2 : t.s.toList = [] := zLQ fun h => hn (.inr (.inl h))
        have hn3 : t.kids.length = (yX (i + 1) ks).length := zLQ fun h => hn (.inr (.inr h))
        rw [jU] at hn3
        exact ⟨hn1, zJf hn2, zDC ks (i + 1) t.kids h3 hg.2.2.2.2.2.2 hn3 ht⟩
    · rw [if_pos hk] at ht ⊢
      exact zGT ht
theorem zDC {l : List Fl} {K : Int → List Int} : ∀ (ks : List Sh) (i : Nat) (xs : List (List Tr)), IxL l K i ks → yG ks → xs.length = ks.length → zAi l K xs (yX i ks) = 0 → fsK ks xs
  | [], i, xs, _, _, hl, _ => by rw [fsK]; exact zLS hl
  | s :: r, i, [], _, _, hl, _ => by simp at hl
  | s :: r, i, x :: xs, hi, hg, hl, h => by
    simp only [IxL] at hi
    simp only [yG] at hg
    rw [zAp] at h
    split at h
    · rename_i hn; exact absurd h hn
    rename_i hn
    have ha : qQ l K x (i : Int) = 0 := zLQ hn
    unfold qQ at ha
    split at ha
    · rename_i hn2; exact absurd ha hn2
    rename_i hn2
    have hr : qN (jX l (i : Int)).rep x.length = 0 := zLQ hn2
    have hsr : (jX l (i : Int)).rep = s.rep := by
      obtain ⟨nm, rp, kd, kk⟩ := s
      have := hi.1
      simp only [Ix] at this
      simp [jX, this.1, Sh.rep]
    rw [hsr] at hr
    have hb : 0 ≤ s.rep ∧ s.rep ≤ 2 := by
      obtain ⟨nm, rp, kd, kk⟩ := s
      have := hg.1
      simp only [zR] at this
      exact ⟨this.1, this.2.1⟩
    rw [fsK]
    exact ⟨zGF hb.1 hb.2 hr, fun t ht => zEK s i t hi.1 hg.1 (zCi ha t ht), zDC r (i + s.size) xs hi.2 hg.2 (by simpa using hl) h⟩
end
def wR (deep r d : Nat) (C : List Cel) : Prop := ∃ c cs, C = c :: cs ∧ c.r = r ∧ d ≤ c.d ∧ ∀ x ∈ cs, deep < x.r
theorem wR.ne {deep r d : Nat} {C : List Cel} (h : wR deep r d C) : C ≠ [] := by obtain ⟨c, cs, rfl, _⟩ := h; simp
theorem wR.to {deep deep' r d d' : Nat} {C : List Cel} (h : wR deep r d C) (h1 : deep' ≤ deep) (h2 : d' ≤ d) : wR deep' r d' C := by
  obtain ⟨c, cs, rfl, a, b, e⟩ := h
  exact ⟨c, cs, rfl, a, by omega, fun x hx => by have := e x hx; omega⟩
theorem wR.all {deep dp r d r' d' : Nat} {A B : List Cel} (ha : wR deep r d A) (hb : wR deep r' d' B) (h1 : dp ≤ deep) (h2 : dp < r') : wR dp r d (A ++ B) := by
  obtain ⟨c, cs, rfl, a1, a2, a3⟩ := ha
  obtain ⟨b, bs, rfl, b1, b2, b3⟩ := hb
  refine ⟨c, cs ++ b :: bs, rfl, a1, a2, fun x hx => ?_⟩
  rcases List.mem_append.1 hx with hx | hx
  · have := a3 x hx; omega
  · rcases List.mem_cons.1 hx with rfl | hx
    · omega
    · have := b3 x hx; omega
theorem zB7 {deep d dp : Nat} {g : Nat → Tr → List Cel} (h2 : dp < deep) : ∀ (ts : List Tr) (A : List Cel) (r d0 : Nat), wR dp r d0 A → (∀ u ∈ ts, wR deep deep d (g deep u)) → wR dp r d0 (A ++ ts.flatMap (g deep))
  | [], A, r, d0, h, _ => by simpa using h
  | u :: ts, A, r, d0, h, hu => by
    rw [List.flatMap_cons, ← List.append_assoc]
    refine zB7 h2 ts _ r d0 ?_ (fun v hv => hu v (by simp [hv]))
    exact h.all ((hu u (by simp)).to (by omega) (zLU _)) (zLU _) h2
theorem zG5 {rep : Int} {m : Nat} (h : qW rep m) (h2 : 2 ≤ m) : rep = 2 := by
  unfold qW at h
  split at h
  · omega
  · split at h
    · assumption
    · omega
theorem zFe {rep : Int} (h : qW rep 0) : rep = 1 ∨ rep = 2 := by
  unfold qW at h
  split at h
  · exact .inl (by assumption)
  · split at h
    · exact .inr (by assumption)
    · omega
mutual
theorem wH {l : List Fl} {K : Int → List Int} {lf : Nat} (hkl : (flN l lf).kind ≠ 0) : ∀ (s : Sh) (i d deep r : Nat) (t : Tr), Ix l K i s → zR s → fsT s t → i ≤ lf → lf < i + s.size → wR deep r d (yK lf i d deep r s t)
  | .mk nm rp kd ks, i, d, deep, r, t, hx, hg, hok, h1, h2 => by
    simp only [zR] at hg
    simp only [Ix] at hx
    simp only [yK]
    rw [fsT] at hok
    by_cases hk : kd = 0
    · subst hk
      rw [if_neg (by decide)] at hok ⊢
      simp only [Sh.size] at h2
      have hne : lf ≠ i := by
        intro e
        rw [e] at hkl
        exact hkl (by simp [flN, List.getD, hx.1])
      exact zED hkl ks (i + 1) d deep r t.kids hx.2.2 hg.2.2.2.2.2.2 hok.2.2 (by omega) (by omega)
    · rw [if_pos hk]
      have hks := hg.2.2.2.2.1 hk
      subst hks
      simp only [Sh.size, zC] at h2
      have hi : i = lf := by omega
      subst hi
      rw [if_pos rfl]
      exact ⟨_, [], rfl, rfl, zLU _, fun x hx => by cases hx⟩
theorem zED {l : List Fl} {K : Int → List Int} {lf : Nat} (hkl : (flN l lf).kind ≠ 0) : ∀ (ks : List Sh) (o d deep r : Nat) (xs : List (List Tr)), IxL l K o ks → yG ks → fsK ks xs → o ≤ lf → lf < o + zC ks → wR deep r d (qB lf o d deep r ks xs)
  | [], o, d, deep, r, xs, _, _, _, h1, h2 => by simp only [zC] at h2; omega
  | s :: q, o, d, deep, r, [], _, _, hok, _, _ => by rw [fsK] at hok; exact hok.elim
  | s :: q, o, d, deep, r, x :: xs, hx, hg, hok, h1, h2 => by
    simp only [yG] at hg
    simp only [IxL] at hx
    simp only [zC] at h2
    rw [fsK] at hok
    rw [xH]
    by_cases hr : lf < o + s.size
    · rw [wX q (o + s.size) _ _ r xs (by omega), zL1]
      exact zId hkl s o d deep r x hx.1 hg.1 hok.1 hok.2.1 h1 hr
    · rw [zAX s o d deep r x (by omega), List.nil_append]
      exact zED hkl q (o + s.size) d deep r xs hx.2 hg.2 hok.2.2 (by omega) (by omega)
theorem zId {l : List Fl} {K : Int → List Int} {lf : Nat} (hkl : (flN l lf).kind ≠ 0) : ∀ (s : Sh) (o d deep r : Nat) (x : List Tr), Ix l K o s → zR s → qW s.rep x.length → (∀ t ∈ x, fsT s t) → o ≤ lf → lf < o + s.size → wR deep r d (jO lf o d deep r s x)
  | s, o, d, deep, r, [], _, _, _, _, h1, h2 => by
    rw [zCh]
    unfold xK
    rw [if_pos ⟨h1, h2⟩]
    exact ⟨_, [], rfl, rfl, zLU _, fun x hx => by cases hx⟩
  | s, o, d, deep, r, t :: ts, hx, hg, hrep, hok, h1, h2 => by
    unfold jO
    simp only [zB6]
    have h3 := wH hkl s o (d + dmI s.rep) (deep + rmI s.rep) r t hx hg (hok t (by simp)) h1 h2
    by_cases hts : ts = []
    · subst hts
      rw [List.flatMap_nil, zL1]
      exact h3.to (by omega) (by omega)
    · have hr2 : s.rep = 2 := zG5 hrep (by have := List.length_pos_iff.2 hts; simp only [zLR]; omega)
      have e1 : rmI s.rep = 1 := by rw [hr2]; rfl
      refine zB7 (d := d + dmI s.rep) (g := fun r' u => yK lf o (d + dmI s.rep) (deep + rmI s.rep) r' s u) (by omega) ts _ r d (h3.to (by omega) (by omega)) (fun u hu => ?_)
      exact wH hkl s o (d + dmI s.rep) (deep + rmI s.rep) _ u hx hg (hok u (by simp [hu])) h1 h2
end
def spl (r : Int) : List Int → Nat → Nat → List (Nat × Nat)
  | [], f, k => [(f, k)]
  | x :: xs, f, k => if x ≤ r then (f, k) :: spl r xs k (k + 1) else spl r xs f (k + 1)
def zAT (r : Int) (R : List Int) (f t : Nat) : List (Nat × Nat) := if f < t then spl r ((R.take t).drop (f + 1)) f (f + 1) else []
def ivs (f : Nat) : List (List Cel) → List (Nat × Nat)
  | [] => []
  | p :: ps => (f, f + p.length) :: ivs (f + p.length) ps
theorem zFg : ∀ (ps : List (List Cel)) (f : Nat), (ivs f ps).length = ps.length
  | [], _ => rfl
  | p :: ps, f => by simp [ivs, zFg ps]
theorem zFh : ∀ (ps : List (List Cel)) (f n : Nat) (h : n < ps.length), (ivs f ps)[n]? = some (f + ((ps.take n).flatten).length, f + ((ps.take n).flatten).length + ps[n].length)
  | p :: ps, f, 0, h => by simp [ivs]
  | p :: ps, f, n + 1, h => by
    simp only [ivs, List.getElem?_cons_succ, List.getElem_cons_succ, List.take_succ_cons, zLX, zLP]
    rw [zFh ps _ n (by simpa using h)]
    congr 2 <;> omega
def Pcs (r : Nat) : List (List Cel) → Prop
  | [] => True
  | p :: ps => (p ≠ [] ∧ ∀ x ∈ p.tail, r < x.r) ∧ (∀ q ∈ ps, ∃ c cs, q = c :: cs ∧ c.r ≤ r ∧ ∀ x ∈ cs, r < x.r)
theorem zDK {r : Nat} : ∀ (cs : List Cel) (xs : List Int) (f k : Nat), (∀ x ∈ cs, r < x.r) → spl (r : Int) (cs.map (fun c => (c.r : Int)) ++ xs) f k = spl (r : Int) xs f (k + cs.length)
  | [], xs, f, k, _ => rfl
  | c :: cs, xs, f, k, h => by
    have hc := h c (by simp)
    simp only [List.map_cons, zL2, spl]
    rw [if_neg (by omega), zDK cs xs f (k + 1) (fun x hx => h x (by simp [hx])), zLR]
    congr 1; omega
theorem zHi {r : Nat} : ∀ (ps : List (List Cel)) (cs : List Cel) (f k : Nat), (∀ x ∈ cs, r < x.r) → (∀ q ∈ ps, ∃ c cs, q = c :: cs ∧ c.r ≤ r ∧ ∀ x ∈ cs, r < x.r) →
    spl (r : Int) ((cs ++ ps.flatten).map fun c => (c.r : Int)) f k = (f, k + cs.length) :: ivs (k + cs.length) ps
  | [], cs, f, k, h, _ => by
    have := zDK cs [] f k h
    simp only [zL1] at this
    simp only [List.flatten_nil, zL1, this, spl, ivs]
  | q :: ps, cs, f, k, h, hq => by
    obtain ⟨c, ds, rfl, hc, hds⟩ := hq q (by simp)
    rw [List.map_append, zDK cs _ f k h]
    simp only [zLX, zL2, List.map_cons, spl]
    rw [if_pos (by omega), zHi ps ds _ _ hds (fun q hq' => hq q (by simp [hq']))]
    simp only [ivs, zLR]
    congr 2
    · congr 1; omega
    · congr 1; omega
theorem zC8 {r : Nat} {C : List Cel} {f t : Nat} {ps : List (List Cel)} (hp : Pcs r ps) (ht : t ≤ C.length) (hft : f ≤ t) (h : (C.take t).drop f = ps.flatten) :
    zAT (r : Int) (C.map fun c => (c.r : Int)) f t = ivs f ps := by
  unfold zAT
  cases ps with
  | nil =>
    have h0 : ((C.take t).drop f).length = 0 := by rw [h]; rfl
    rw [zLV, zLT] at h0
    rw [if_neg (by omega)]; rfl
  | cons p ps =>
    obtain ⟨⟨h1, h2⟩, h3⟩ := hp
    cases p with
    | nil => exact absurd rfl h1
    | cons c cs =>
      have h0 : ((C.take t).drop f).length = ((c :: cs) :: ps).flatten.length := by rw [h]
      simp only [zLV, zLT, zLX, zL2, zLR] at h0
      rw [if_pos (by omega)]
      have e : ((C.map fun c => (c.r : Int)).take t).drop (f + 1) = (cs ++ ps.flatten).map fun c => (c.r : Int) := by
        rw [← List.map_take, ← List.map_drop]
        congr 1
        rw [← List.tail_drop, h]; rfl
      rw [e, zHi ps cs f (f + 1) h2 h3, show f + 1 + cs.length = f + (cs.length + 1) by omega]
      simp only [ivs, zLR]
theorem zG4 (r : Int) : ∀ (xs : List Int) (f k : Nat), f < k → (∀ p ∈ spl r xs f k, f ≤ p.1 ∧ p.1 < p.2 ∧ p.2 ≤ k + xs.length)
  | [], f, k, h, p, hp => by
    simp only [spl, List.mem_singleton] at hp
    subst hp; exact ⟨zLU _, h, by simp⟩
  | x :: xs, f, k, h, p, hp => by
    simp only [spl] at hp
    simp only [zLR]
    split at hp
    · rcases List.mem_cons.1 hp with rfl | hp
      · exact ⟨zLU _, h, by dsimp only; omega⟩
      · have := zG4 r xs k (k + 1) (by omega) p hp; omega
    · have := zG4 r xs f (k + 1) (by omega) p hp; omega
theorem zDa (r : Int) : ∀ (xs : List Int) (f k : Nat), 1 ≤ (spl r xs f k).length ∧ (spl r xs f k).length ≤ xs.length + 1
  | [], f, k => by simp [spl]
  | x :: xs, f, k => by
    simp only [spl]
    split
    · have := zDa r xs k (k + 1); simp only [zLR]; omega
    · have := zDa r xs f (k + 1); simp only [zLR]; omega
theorem zHN {r : Int} {R : List Int} {f t : Nat} (ht : t ≤ R.length) : ∀ p ∈ zAT r R f t, f ≤ p.1 ∧ p.1 < p.2 ∧ p.2 ≤ t := by
  intro p hp
  unfold zAT at hp
  split at hp
  · have := zG4 r _ f (f + 1) (by omega) p hp
    rw [zLV, zLT] at this
    omega
  · cases hp
theorem zC9 {r : Int} {R : List Int} {f t : Nat} : (zAT r R f t).length ≤ R.length + 1 := by
  unfold zAT
  split
  · have := (zDa r ((R.take t).drop (f + 1)) f (f + 1)).2
    rw [zLV, zLT] at this
    omega
  · simp
theorem zGw {r : Int} {R : List Int} {f t : Nat} (h : f < t) : 1 ≤ (zAT r R f t).length := by
  unfold zAT
  rw [if_pos h]
  exact (zDa _ _ _ _).1
def xT (g : Nat → Tr → List Cel) (r deep : Nat) : List Tr → List (List Cel)
  | [] => []
  | t :: ts => g r t :: ts.map (g deep)
theorem zFF {g : Nat → Tr → List Cel} {r deep : Nat} {e : List Cel} {x : List Tr} (h : x ≠ []) : (xT g r deep x).flatten = zB6 g r deep e x := by
  cases x with
  | nil => exact absurd rfl h
  | cons t ts => simp [xT, zB6, List.flatMap]
theorem zA7 {g : Nat → Tr → List Cel} {r deep : Nat} : ∀ {x : List Tr}, (xT g r deep x).length = x.length
  | [] => rfl
  | t :: ts => by simp [xT]
theorem zDl {g : Nat → Tr → List Cel} {r deep n : Nat} : ∀ {x : List Tr} (h : n < x.length) (h' : n < (xT g r deep x).length), (xT g r deep x)[n] = g (if n = 0 then r else deep) x[n]
  | t :: ts, h, h' => by
    cases n with
    | zero => simp [xT]
    | succ n => simp [xT]
theorem zDk {g : Nat → Tr → List Cel} {r deep d : Nat} : ∀ {x : List Tr}, (∀ r', ∀ t ∈ x, wR deep r' d (g r' t)) → Pcs deep (xT g r deep x)
  | [], _ => trivial
  | t :: ts, h => by
    refine ⟨?_, ?_⟩
    · obtain ⟨c, cs, h1, _, _, h4⟩ := h r t (by simp)
      rw [h1]; exact ⟨by simp, h4⟩
    · intro q hq
      obtain ⟨u, hu, rfl⟩ := List.mem_map.1 hq
      obtain ⟨c, cs, h1, h2, _, h4⟩ := h deep u (by simp [hu])
      exact ⟨c, cs, h1, by omega, h4⟩
theorem zE3 {α : Type} (ps : List (List α)) (n : Nat) (h : n < ps.length) : (ps.flatten.take ((ps.take n).flatten.length + ps[n].length)).drop (ps.take n).flatten.length = ps[n] := by
  have e : ps = ps.take n ++ ps[n] :: ps.drop (n + 1) := by rw [zLZ, zLY]
  have e2 : ps.flatten = (ps.take n).flatten ++ (ps[n] ++ (ps.drop (n + 1)).flatten) := by
    conv => lhs; rw [e]
    rw [zL4, zLX]
  rw [e2, List.take_length_add_append, List.drop_left, List.take_left]
theorem zDn {C : List Cel} {f t : Nat} {ps : List (List Cel)} (h : (C.take t).drop f = ps.flatten) (n : Nat) (hn : n < ps.length) :
    (C.take (f + (ps.take n).flatten.length + ps[n].length)).drop (f + (ps.take n).flatten.length) = ps[n] := by
  have h1 := zE3 ps n hn
  rw [← h, List.take_drop, List.drop_drop, List.take_take] at h1
  have hl : (ps.take n).flatten.length + ps[n].length ≤ ps.flatten.length := by
    have e : ps = ps.take n ++ ps[n] :: ps.drop (n + 1) := by rw [zLZ, zLY]
    have : ps.flatten.length = ((ps.take n).flatten ++ (ps[n] ++ (ps.drop (n + 1)).flatten)).length := by
      conv => lhs; rw [e]
      rw [zL4, zLX]
    rw [this, zLP, zLP]; omega
  rw [← h, zLV, zLT] at hl
  by_cases hz : ps[n].length = 0
  · rw [zLS hz]
    apply zLS
    rw [zLV, zLT, List.length_nil]; omega
  · rw [Nat.min_eq_left (by omega)] at h1
    rw [Nat.add_assoc f _ ps[n].length]
    exact h1
theorem zFD (lf : Nat) (sh : Sh) (rows : List Tr) : zS lf sh rows = (xT (fun r t => yK lf 0 0 0 r sh t) 0 0 rows).flatten := by
  cases rows with
  | nil => rfl
  | cons t ts => simp [zS, xT, List.flatMap]
def vN (D : Int) (d : List Int) (j : Nat) : Nat := ((d.take j).filter fun z => z == D).length
theorem zE4 {D : Int} {d : List Int} {j : Nat} (h : j < d.length) : vN D d (j + 1) = vN D d j + if d[j] = D then 1 else 0 := by
  unfold vN
  rw [zL0 h, zL5, zLP]
  by_cases he : d[j] = D <;> simp [he]
theorem zKr (D : Int) (d : List Int) (j : Nat) : vN D d j ≤ j := by
  unfold vN
  have := List.length_filter_le (fun z => z == D) (d.take j)
  rw [zLT] at this; omega
theorem zJO {D : Int} {d : List Int} : ∀ {i j : Nat}, i ≤ j → vN D d i ≤ vN D d j := by
  intro i j h
  unfold vN
  have e : (d.take j).take i = d.take i := by rw [List.take_take, Nat.min_eq_left h]
  rw [← e]
  conv => rhs; rw [← zLY i (d.take j)]
  rw [zL5, zLP]; omega
theorem zLo {D : Int} {d : List Int} {j : Nat} (h : j < d.length) (he : d[j] = D) : vN D d j < vN D d d.length := by
  have h1 := zE4 (D := D) h
  rw [if_pos he] at h1
  have h2 := zJO (D := D) (d := d) (i := j + 1) (j := d.length) (by omega)
  omega
def jY (D : Int) (d : List Int) : List Int := (List.range d.length).map fun j => (vN D d j : Int)
theorem zAG (D : Int) (d : List Int) : (jY D d).length = d.length := by simp [jY]
theorem zEe {D : Int} {d : List Int} {j : Nat} (h : j < (jY D d).length) : (jY D d)[j] = (vN D d j : Int) := by simp [jY]
def zJL (D : Nat) (C : List Cel) : Prop := ∀ c ∈ C, (c.d = D ↔ c.v.isSome = true)
theorem zG2 {C : List Cel} {i : Nat} (h : i < C.length) : zV (C.take (i + 1)) = zV (C.take i) ++ (C[i].v).toList := by
  unfold zV
  rw [zL0 h, zL3]
  cases hv : C[i].v <;> simp [hv]
theorem zFq {C : List Cel} {D : Nat} (h : zJL D C) : ∀ (i : Nat), vN (D : Int) (C.map fun c => (c.d : Int)) i = (zV (C.take i)).length
  | 0 => by simp [vN, zV]
  | i + 1 => by
    by_cases hi : i < C.length
    · rw [zE4 (by simpa using hi), zG2 hi, zLP, zFq h i]
      congr 1
      have hw := h C[i] (List.getElem_mem hi)
      simp only [List.getElem_map]
      by_cases hd : C[i].d = D
      · rw [if_pos (by omega)]
        have := hw.1 hd
        cases hv : C[i].v with
        | none => rw [hv] at this; cases this
        | some v => rfl
      · rw [if_neg (by omega)]
        cases hv : C[i].v with
        | none => rfl
        | some v => exact absurd (hw.2 (by rw [hv]; rfl)) hd
    · have e1 : (C.map fun c => (c.d : Int)).take (i + 1) = (C.map fun c => (c.d : Int)).take i := by
        rw [zLW (by simp; omega), zLW (by simp; omega)]
      have e2 : C.take (i + 1) = C.take i := by rw [zLW (by omega), zLW (by omega)]
      have := zFq h i
      unfold vN at this ⊢
      rw [e1, e2]; exact this
theorem zKl {C : List Cel} {i : Nat} (h : i < C.length) {v : Vc} (hv : C[i].v = some v) : (zV C)[(zV (C.take i)).length]? = some v := by
  have e : C = C.take i ++ C[i] :: C.drop (i + 1) := by rw [zLZ, zLY]
  have e2 : zV C = zV (C.take i) ++ v :: zV (C.drop (i + 1)) := by
    conv => lhs; rw [e]
    unfold zV
    rw [zL3, List.filterMap_cons, hv]
  rw [e2, List.getElem?_append_right (zLU _), Nat.sub_self]
  rfl
def kb (l : List Fl) (i : Nat) : Nat := (zG l i).length
theorem jH (l : List Fl) (i : Nat) : kb l (i + 1) = kb l i + if (flN l i).kind = 0 then 0 else 1 := by
  unfold kb
  by_cases h : (flN l i).kind = 0
  · rw [jC h, if_pos h]; rfl
  · rw [xQ h, if_neg h, zLP]; rfl
theorem yS (l : List Fl) {i j : Nat} (h : i ≤ j) : kb l i ≤ kb l j := by
  induction j with
  | zero => have : i = 0 := by omega
            rw [this]; exact zLU _
  | succ j ih =>
    by_cases e : i = j + 1
    · rw [e]; exact zLU _
    · have := ih (by omega); rw [jH]; omega
theorem zAM (l : List Fl) : ∀ (n k : Nat) (h : k < (zG l n).length), (zG l n)[k] < n ∧ (flN l (zG l n)[k]).kind ≠ 0 ∧ kb l (zG l n)[k] = k
  | 0, k, h => by simp [zG] at h
  | n + 1, k, h => by
    by_cases hk : (flN l n).kind = 0
    · have e := jC hk
      have h' : k < (zG l n).length := by rw [e] at h; exact h
      have := zAM l n k h'
      have e2 : (zG l (n + 1))[k] = (zG l n)[k] := by simp [e]
      rw [e2]
      exact ⟨by omega, this.2.1, this.2.2⟩
    · have e := xQ hk
      by_cases hl : k < (zG l n).length
      · have := zAM l n k hl
        have e2 : (zG l (n + 1))[k] = (zG l n)[k] := by simp [e, hl]
        rw [e2]
        exact ⟨by omega, this.2.1, this.2.2⟩
      · have hkn : k = (zG l n).length := by rw [e, zLP] at h; simp at h; omega
        have e2 : (zG l (n + 1))[k] = n := by simp [e, hkn]
        rw [e2]
        exact ⟨by omega, hk, hkn.symm⟩
theorem zDu {l : List Fl} {k i : Nat} (h : k < (zG l l.length).length) : (i ≤ (zG l l.length)[k] ↔ kb l i ≤ k) := by
  obtain ⟨h1, h2, h3⟩ := zAM l l.length k h
  constructor
  · intro hi; have := yS l hi; omega
  · intro hi
    by_cases hlt : i ≤ (zG l l.length)[k]
    · exact hlt
    · have h4 := yS l (show (zG l l.length)[k] + 1 ≤ i by omega)
      rw [jH, if_neg h2] at h4
      omega
theorem zBN (l : List Fl) : kb l l.length = (zG l l.length).length := rfl
theorem zBl {l : List Fl} {i : Nat} (h : (flN l i).kind = 0) : kb l (i + 1) = kb l i := by rw [jH, if_pos h]; rfl
end Go.Proofs.Ytjbkjfefjhbolaa
