import Derived.Test.YtjbkjfefjhbolaakCol14S
set_option linter.unusedSimpArgs false
set_option linter.unusedVariables false
namespace Go.Proofs.Ytjbkjfefjhbolaa
open Go.RowKit Go.Shr
mutual
def fsT : Sh → Tr → Prop
  | .mk _ _ kd ks, t => if kd ≠ 0 then t.kids = [] else t.n = 0 ∧ t.s = ByteArray.empty ∧ fsK ks t.kids
def fsK : List Sh → List (List Tr) → Prop
  | [], xs => xs = []
  | _ :: _, [] => False
  | s :: r, x :: xs => okRep s.rep x.length ∧ (∀ t ∈ x, fsT s t) ∧ fsK r xs
end
theorem repT_okRep {rep : Int} {m : Nat} (h0 : 0 ≤ rep) (h2 : rep ≤ 2) (h : repT rep m = 0) : okRep rep m := by
  unfold repT at h
  split at h
  · exact absurd h (by decide)
  · split at h
    · exact absurd h (by decide)
    · unfold okRep
      split
      · omega
      · split <;> omega
theorem leafT_kids {kind : Int} {t : Tr} (h : leafT kind t = 0) : t.kids = [] := by
  unfold leafT at h
  by_cases hk : t.kids = []
  · exact hk
  · have : t.kids.length ≠ 0 := fun h => hk (List.eq_nil_of_length_eq_zero h)
    simp [this] at h
    all_goals (try (split at h <;> simp_all))
theorem empty_of {s : ByteArray} (h : s.toList = []) : s = ByteArray.empty := by
  rw [ByteArray.toList_eq] at h
  cases s
  simp_all
  rfl
mutual
theorem fs_of_fit {l : List Fl} {K : Int → List Int} : ∀ (s : Sh) (i : Nat) (t : Tr), Ix l K i s → GoodS s → fitT l K t i = 0 → fsT s t
  | .mk nm rp kd ks, i, t, hi, hg, ht => by
    simp only [Ix] at hi
    simp only [GoodS] at hg
    obtain ⟨h1, h2, h3⟩ := hi
    have hf : flAt l (i : Int) = ⟨nm, rp, kd, ks.length⟩ := by simp [flAt, h1]
    rw [fitT_eq, hf] at ht
    dsimp only at ht
    rw [fsT]
    by_cases hk : kd = 0
    · subst hk
      rw [if_neg (fun h => h rfl)] at ht ⊢
      split at ht
      · exact absurd ht (by decide)
      · rename_i hn
        rw [h2] at ht hn
        have hn1 : t.n = 0 := Decidable.byContradiction fun h => hn (.inl h)
        have hn2 : t.s.toList = [] := Decidable.byContradiction fun h => hn (.inr (.inl h))
        have hn3 : t.kids.length = (offs (i + 1) ks).length := Decidable.byContradiction fun h => hn (.inr (.inr h))
        rw [offs_len] at hn3
        exact ⟨hn1, empty_of hn2, fs_of_fitK ks (i + 1) t.kids h3 hg.2.2.2.2.2.2 hn3 ht⟩
    · rw [if_pos hk] at ht ⊢
      exact leafT_kids ht
theorem fs_of_fitK {l : List Fl} {K : Int → List Int} : ∀ (ks : List Sh) (i : Nat) (xs : List (List Tr)), IxL l K i ks → GoodL ks → xs.length = ks.length → fitK l K xs (offs i ks) = 0 → fsK ks xs
  | [], i, xs, _, _, hl, _ => by rw [fsK]; exact List.eq_nil_of_length_eq_zero hl
  | s :: r, i, [], _, _, hl, _ => by simp at hl
  | s :: r, i, x :: xs, hi, hg, hl, h => by
    simp only [IxL] at hi
    simp only [GoodL] at hg
    rw [fitK_cons] at h
    split at h
    · rename_i hn; exact absurd h hn
    rename_i hn
    have ha : fitA l K x (i : Int) = 0 := Decidable.byContradiction hn
    unfold fitA at ha
    split at ha
    · rename_i hn2; exact absurd ha hn2
    rename_i hn2
    have hr : repT (flAt l (i : Int)).rep x.length = 0 := Decidable.byContradiction hn2
    have hsr : (flAt l (i : Int)).rep = s.rep := by
      obtain ⟨nm, rp, kd, kk⟩ := s
      have := hi.1
      simp only [Ix] at this
      simp [flAt, this.1, Sh.rep]
    rw [hsr] at hr
    have hb : 0 ≤ s.rep ∧ s.rep ≤ 2 := by
      obtain ⟨nm, rp, kd, kk⟩ := s
      have := hg.1
      simp only [GoodS] at this
      exact ⟨this.1, this.2.1⟩
    rw [fsK]
    exact ⟨repT_okRep hb.1 hb.2 hr, fun t ht => fs_of_fit s i t hi.1 hg.1 (fitX_mem ha t ht), fs_of_fitK r (i + s.size) xs hi.2 hg.2 (by simpa using hl) h⟩
end
def DeepC (deep r d : Nat) (C : List Cel) : Prop := ∃ c cs, C = c :: cs ∧ c.r = r ∧ d ≤ c.d ∧ ∀ x ∈ cs, deep < x.r
theorem DeepC.ne {deep r d : Nat} {C : List Cel} (h : DeepC deep r d C) : C ≠ [] := by obtain ⟨c, cs, rfl, _⟩ := h; simp
theorem DeepC.to {deep deep' r d d' : Nat} {C : List Cel} (h : DeepC deep r d C) (h1 : deep' ≤ deep) (h2 : d' ≤ d) : DeepC deep' r d' C := by
  obtain ⟨c, cs, rfl, a, b, e⟩ := h
  exact ⟨c, cs, rfl, a, by omega, fun x hx => by have := e x hx; omega⟩
theorem DeepC.all {deep dp r d r' d' : Nat} {A B : List Cel} (ha : DeepC deep r d A) (hb : DeepC deep r' d' B) (h1 : dp ≤ deep) (h2 : dp < r') : DeepC dp r d (A ++ B) := by
  obtain ⟨c, cs, rfl, a1, a2, a3⟩ := ha
  obtain ⟨b, bs, rfl, b1, b2, b3⟩ := hb
  refine ⟨c, cs ++ b :: bs, rfl, a1, a2, fun x hx => ?_⟩
  rcases List.mem_append.1 hx with hx | hx
  · have := a3 x hx; omega
  · rcases List.mem_cons.1 hx with rfl | hx
    · omega
    · have := b3 x hx; omega
theorem flatMap_deep {deep d dp : Nat} {g : Nat → Tr → List Cel} (h2 : dp < deep) : ∀ (ts : List Tr) (A : List Cel) (r d0 : Nat), DeepC dp r d0 A → (∀ u ∈ ts, DeepC deep deep d (g deep u)) → DeepC dp r d0 (A ++ ts.flatMap (g deep))
  | [], A, r, d0, h, _ => by simpa using h
  | u :: ts, A, r, d0, h, hu => by
    rw [List.flatMap_cons, ← List.append_assoc]
    refine flatMap_deep h2 ts _ r d0 ?_ (fun v hv => hu v (by simp [hv]))
    exact h.all ((hu u (by simp)).to (by omega) (Nat.le_refl _)) (Nat.le_refl _) h2
theorem lenRep {rep : Int} {m : Nat} (h : okRep rep m) (h2 : 2 ≤ m) : rep = 2 := by
  unfold okRep at h
  split at h
  · omega
  · split at h
    · assumption
    · omega
theorem lenRep0 {rep : Int} (h : okRep rep 0) : rep = 1 ∨ rep = 2 := by
  unfold okRep at h
  split at h
  · exact .inl (by assumption)
  · split at h
    · exact .inr (by assumption)
    · omega
mutual
theorem valC_deep {l : List Fl} {K : Int → List Int} {lf : Nat} (hkl : (flN l lf).kind ≠ 0) : ∀ (s : Sh) (i d deep r : Nat) (t : Tr), Ix l K i s → GoodS s → fsT s t → i ≤ lf → lf < i + s.size → DeepC deep r d (valC lf i d deep r s t)
  | .mk nm rp kd ks, i, d, deep, r, t, hx, hg, hok, h1, h2 => by
    simp only [GoodS] at hg
    simp only [Ix] at hx
    simp only [valC]
    rw [fsT] at hok
    by_cases hk : kd = 0
    · subst hk
      rw [if_neg (by decide)] at hok ⊢
      simp only [Sh.size] at h2
      have hne : lf ≠ i := by
        intro e
        rw [e] at hkl
        exact hkl (by simp [flN, List.getD, hx.1])
      exact kidC_deep hkl ks (i + 1) d deep r t.kids hx.2.2 hg.2.2.2.2.2.2 hok.2.2 (by omega) (by omega)
    · rw [if_pos hk]
      have hks := hg.2.2.2.2.1 hk
      subst hks
      simp only [Sh.size, shSizes] at h2
      have hi : i = lf := by omega
      subst hi
      rw [if_pos rfl]
      exact ⟨_, [], rfl, rfl, Nat.le_refl _, fun x hx => by cases hx⟩
theorem kidC_deep {l : List Fl} {K : Int → List Int} {lf : Nat} (hkl : (flN l lf).kind ≠ 0) : ∀ (ks : List Sh) (o d deep r : Nat) (xs : List (List Tr)), IxL l K o ks → GoodL ks → fsK ks xs → o ≤ lf → lf < o + shSizes ks → DeepC deep r d (kidC lf o d deep r ks xs)
  | [], o, d, deep, r, xs, _, _, _, h1, h2 => by simp only [shSizes] at h2; omega
  | s :: q, o, d, deep, r, [], _, _, hok, _, _ => by rw [fsK] at hok; exact hok.elim
  | s :: q, o, d, deep, r, x :: xs, hx, hg, hok, h1, h2 => by
    simp only [GoodL] at hg
    simp only [IxL] at hx
    simp only [shSizes] at h2
    rw [fsK] at hok
    rw [kidC_cons]
    by_cases hr : lf < o + s.size
    · rw [kidC_out q (o + s.size) _ _ r xs (by omega), List.append_nil]
      exact fldC_deep hkl s o d deep r x hx.1 hg.1 hok.1 hok.2.1 h1 hr
    · rw [fldC_out s o d deep r x (by omega), List.nil_append]
      exact kidC_deep hkl q (o + s.size) d deep r xs hx.2 hg.2 hok.2.2 (by omega) (by omega)
theorem fldC_deep {l : List Fl} {K : Int → List Int} {lf : Nat} (hkl : (flN l lf).kind ≠ 0) : ∀ (s : Sh) (o d deep r : Nat) (x : List Tr), Ix l K o s → GoodS s → okRep s.rep x.length → (∀ t ∈ x, fsT s t) → o ≤ lf → lf < o + s.size → DeepC deep r d (fldC lf o d deep r s x)
  | s, o, d, deep, r, [], _, _, _, _, h1, h2 => by
    rw [fldC_nil]
    unfold noneC
    rw [if_pos ⟨h1, h2⟩]
    exact ⟨_, [], rfl, rfl, Nat.le_refl _, fun x hx => by cases hx⟩
  | s, o, d, deep, r, t :: ts, hx, hg, hrep, hok, h1, h2 => by
    unfold fldC
    simp only [fldX]
    have h3 := valC_deep hkl s o (d + dmI s.rep) (deep + rmI s.rep) r t hx hg (hok t (by simp)) h1 h2
    by_cases hts : ts = []
    · subst hts
      rw [List.flatMap_nil, List.append_nil]
      exact h3.to (by omega) (by omega)
    · have hr2 : s.rep = 2 := lenRep hrep (by have := List.length_pos_iff.2 hts; simp only [List.length_cons]; omega)
      have e1 : rmI s.rep = 1 := by rw [hr2]; rfl
      refine flatMap_deep (d := d + dmI s.rep) (g := fun r' u => valC lf o (d + dmI s.rep) (deep + rmI s.rep) r' s u) (by omega) ts _ r d (h3.to (by omega) (by omega)) (fun u hu => ?_)
      exact valC_deep hkl s o (d + dmI s.rep) (deep + rmI s.rep) _ u hx hg (hok u (by simp [hu])) h1 h2
end
def spl (r : Int) : List Int → Nat → Nat → List (Nat × Nat)
  | [], f, k => [(f, k)]
  | x :: xs, f, k => if x ≤ r then (f, k) :: spl r xs k (k + 1) else spl r xs f (k + 1)
def splitP (r : Int) (R : List Int) (f t : Nat) : List (Nat × Nat) := if f < t then spl r ((R.take t).drop (f + 1)) f (f + 1) else []
def ivs (f : Nat) : List (List Cel) → List (Nat × Nat)
  | [] => []
  | p :: ps => (f, f + p.length) :: ivs (f + p.length) ps
theorem ivs_len : ∀ (ps : List (List Cel)) (f : Nat), (ivs f ps).length = ps.length
  | [], _ => rfl
  | p :: ps, f => by simp [ivs, ivs_len ps]
theorem ivs_get : ∀ (ps : List (List Cel)) (f n : Nat) (h : n < ps.length), (ivs f ps)[n]? = some (f + ((ps.take n).flatten).length, f + ((ps.take n).flatten).length + ps[n].length)
  | p :: ps, f, 0, h => by simp [ivs]
  | p :: ps, f, n + 1, h => by
    simp only [ivs, List.getElem?_cons_succ, List.getElem_cons_succ, List.take_succ_cons, List.flatten_cons, List.length_append]
    rw [ivs_get ps _ n (by simpa using h)]
    congr 2 <;> omega
def Pcs (r : Nat) : List (List Cel) → Prop
  | [] => True
  | p :: ps => (p ≠ [] ∧ ∀ x ∈ p.tail, r < x.r) ∧ (∀ q ∈ ps, ∃ c cs, q = c :: cs ∧ c.r ≤ r ∧ ∀ x ∈ cs, r < x.r)
theorem spl_deep {r : Nat} : ∀ (cs : List Cel) (xs : List Int) (f k : Nat), (∀ x ∈ cs, r < x.r) → spl (r : Int) (cs.map (fun c => (c.r : Int)) ++ xs) f k = spl (r : Int) xs f (k + cs.length)
  | [], xs, f, k, _ => rfl
  | c :: cs, xs, f, k, h => by
    have hc := h c (by simp)
    simp only [List.map_cons, List.cons_append, spl]
    rw [if_neg (by omega), spl_deep cs xs f (k + 1) (fun x hx => h x (by simp [hx])), List.length_cons]
    congr 1; omega
theorem spl_pcs {r : Nat} : ∀ (ps : List (List Cel)) (cs : List Cel) (f k : Nat), (∀ x ∈ cs, r < x.r) → (∀ q ∈ ps, ∃ c cs, q = c :: cs ∧ c.r ≤ r ∧ ∀ x ∈ cs, r < x.r) →
    spl (r : Int) ((cs ++ ps.flatten).map fun c => (c.r : Int)) f k = (f, k + cs.length) :: ivs (k + cs.length) ps
  | [], cs, f, k, h, _ => by
    have := spl_deep cs [] f k h
    simp only [List.append_nil] at this
    simp only [List.flatten_nil, List.append_nil, this, spl, ivs]
  | q :: ps, cs, f, k, h, hq => by
    obtain ⟨c, ds, rfl, hc, hds⟩ := hq q (by simp)
    rw [List.map_append, spl_deep cs _ f k h]
    simp only [List.flatten_cons, List.cons_append, List.map_cons, spl]
    rw [if_pos (by omega), spl_pcs ps ds _ _ hds (fun q hq' => hq q (by simp [hq']))]
    simp only [ivs, List.length_cons]
    congr 2
    · congr 1; omega
    · congr 1; omega
theorem splitP_pcs {r : Nat} {C : List Cel} {f t : Nat} {ps : List (List Cel)} (hp : Pcs r ps) (ht : t ≤ C.length) (hft : f ≤ t) (h : (C.take t).drop f = ps.flatten) :
    splitP (r : Int) (C.map fun c => (c.r : Int)) f t = ivs f ps := by
  unfold splitP
  cases ps with
  | nil =>
    have h0 : ((C.take t).drop f).length = 0 := by rw [h]; rfl
    rw [List.length_drop, List.length_take] at h0
    rw [if_neg (by omega)]; rfl
  | cons p ps =>
    obtain ⟨⟨h1, h2⟩, h3⟩ := hp
    cases p with
    | nil => exact absurd rfl h1
    | cons c cs =>
      have h0 : ((C.take t).drop f).length = ((c :: cs) :: ps).flatten.length := by rw [h]
      simp only [List.length_drop, List.length_take, List.flatten_cons, List.cons_append, List.length_cons] at h0
      rw [if_pos (by omega)]
      have e : ((C.map fun c => (c.r : Int)).take t).drop (f + 1) = (cs ++ ps.flatten).map fun c => (c.r : Int) := by
        rw [← List.map_take, ← List.map_drop]
        congr 1
        rw [← List.tail_drop, h]; rfl
      rw [e, spl_pcs ps cs f (f + 1) h2 h3, show f + 1 + cs.length = f + (cs.length + 1) by omega]
      simp only [ivs, List.length_cons]
theorem spl_ok (r : Int) : ∀ (xs : List Int) (f k : Nat), f < k → (∀ p ∈ spl r xs f k, f ≤ p.1 ∧ p.1 < p.2 ∧ p.2 ≤ k + xs.length)
  | [], f, k, h, p, hp => by
    simp only [spl, List.mem_singleton] at hp
    subst hp; exact ⟨Nat.le_refl _, h, by simp⟩
  | x :: xs, f, k, h, p, hp => by
    simp only [spl] at hp
    simp only [List.length_cons]
    split at hp
    · rcases List.mem_cons.1 hp with rfl | hp
      · exact ⟨Nat.le_refl _, h, by dsimp only; omega⟩
      · have := spl_ok r xs k (k + 1) (by omega) p hp; omega
    · have := spl_ok r xs f (k + 1) (by omega) p hp; omega
theorem spl_len (r : Int) : ∀ (xs : List Int) (f k : Nat), 1 ≤ (spl r xs f k).length ∧ (spl r xs f k).length ≤ xs.length + 1
  | [], f, k => by simp [spl]
  | x :: xs, f, k => by
    simp only [spl]
    split
    · have := spl_len r xs k (k + 1); simp only [List.length_cons]; omega
    · have := spl_len r xs f (k + 1); simp only [List.length_cons]; omega
theorem splitP_ok {r : Int} {R : List Int} {f t : Nat} (ht : t ≤ R.length) : ∀ p ∈ splitP r R f t, f ≤ p.1 ∧ p.1 < p.2 ∧ p.2 ≤ t := by
  intro p hp
  unfold splitP at hp
  split at hp
  · have := spl_ok r _ f (f + 1) (by omega) p hp
    rw [List.length_drop, List.length_take] at this
    omega
  · cases hp
theorem splitP_len {r : Int} {R : List Int} {f t : Nat} : (splitP r R f t).length ≤ R.length + 1 := by
  unfold splitP
  split
  · have := (spl_len r ((R.take t).drop (f + 1)) f (f + 1)).2
    rw [List.length_drop, List.length_take] at this
    omega
  · simp
theorem splitP_pos {r : Int} {R : List Int} {f t : Nat} (h : f < t) : 1 ≤ (splitP r R f t).length := by
  unfold splitP
  rw [if_pos h]
  exact (spl_len _ _ _ _).1
def pieces (g : Nat → Tr → List Cel) (r deep : Nat) : List Tr → List (List Cel)
  | [] => []
  | t :: ts => g r t :: ts.map (g deep)
theorem pieces_flat {g : Nat → Tr → List Cel} {r deep : Nat} {e : List Cel} {x : List Tr} (h : x ≠ []) : (pieces g r deep x).flatten = fldX g r deep e x := by
  cases x with
  | nil => exact absurd rfl h
  | cons t ts => simp [pieces, fldX, List.flatMap]
theorem pieces_len {g : Nat → Tr → List Cel} {r deep : Nat} : ∀ {x : List Tr}, (pieces g r deep x).length = x.length
  | [] => rfl
  | t :: ts => by simp [pieces]
theorem pieces_get {g : Nat → Tr → List Cel} {r deep n : Nat} : ∀ {x : List Tr} (h : n < x.length) (h' : n < (pieces g r deep x).length), (pieces g r deep x)[n] = g (if n = 0 then r else deep) x[n]
  | t :: ts, h, h' => by
    cases n with
    | zero => simp [pieces]
    | succ n => simp [pieces]
theorem pieces_pcs {g : Nat → Tr → List Cel} {r deep d : Nat} : ∀ {x : List Tr}, (∀ r', ∀ t ∈ x, DeepC deep r' d (g r' t)) → Pcs deep (pieces g r deep x)
  | [], _ => trivial
  | t :: ts, h => by
    refine ⟨?_, ?_⟩
    · obtain ⟨c, cs, h1, _, _, h4⟩ := h r t (by simp)
      rw [h1]; exact ⟨by simp, h4⟩
    · intro q hq
      obtain ⟨u, hu, rfl⟩ := List.mem_map.1 hq
      obtain ⟨c, cs, h1, h2, _, h4⟩ := h deep u (by simp [hu])
      exact ⟨c, cs, h1, by omega, h4⟩
theorem flatten_take {α : Type} (ps : List (List α)) (n : Nat) (h : n < ps.length) : (ps.flatten.take ((ps.take n).flatten.length + ps[n].length)).drop (ps.take n).flatten.length = ps[n] := by
  have e : ps = ps.take n ++ ps[n] :: ps.drop (n + 1) := by rw [List.getElem_cons_drop, List.take_append_drop]
  have e2 : ps.flatten = (ps.take n).flatten ++ (ps[n] ++ (ps.drop (n + 1)).flatten) := by
    conv => lhs; rw [e]
    rw [List.flatten_append, List.flatten_cons]
  rw [e2, List.take_length_add_append, List.drop_left, List.take_left]
theorem part_cells {C : List Cel} {f t : Nat} {ps : List (List Cel)} (h : (C.take t).drop f = ps.flatten) (n : Nat) (hn : n < ps.length) :
    (C.take (f + (ps.take n).flatten.length + ps[n].length)).drop (f + (ps.take n).flatten.length) = ps[n] := by
  have h1 := flatten_take ps n hn
  rw [← h, List.take_drop, List.drop_drop, List.take_take] at h1
  have hl : (ps.take n).flatten.length + ps[n].length ≤ ps.flatten.length := by
    have e : ps = ps.take n ++ ps[n] :: ps.drop (n + 1) := by rw [List.getElem_cons_drop, List.take_append_drop]
    have : ps.flatten.length = ((ps.take n).flatten ++ (ps[n] ++ (ps.drop (n + 1)).flatten)).length := by
      conv => lhs; rw [e]
      rw [List.flatten_append, List.flatten_cons]
    rw [this, List.length_append, List.length_append]; omega
  rw [← h, List.length_drop, List.length_take] at hl
  by_cases hz : ps[n].length = 0
  · rw [List.eq_nil_of_length_eq_zero hz]
    apply List.eq_nil_of_length_eq_zero
    rw [List.length_drop, List.length_take, List.length_nil]; omega
  · rw [Nat.min_eq_left (by omega)] at h1
    rw [Nat.add_assoc f _ ps[n].length]
    exact h1
theorem rows_pieces (lf : Nat) (sh : Sh) (rows : List Tr) : rowsC lf sh rows = (pieces (fun r t => valC lf 0 0 0 r sh t) 0 0 rows).flatten := by
  cases rows with
  | nil => rfl
  | cons t ts => simp [rowsC, pieces, List.flatMap]
end Go.Proofs.Ytjbkjfefjhbolaa
namespace Go.Proofs.Ytjbkjfefjhbolaa
open Go.RowKit Go.Shr
def vN (D : Int) (d : List Int) (j : Nat) : Nat := ((d.take j).filter fun z => z == D).length
theorem vN_succ {D : Int} {d : List Int} {j : Nat} (h : j < d.length) : vN D d (j + 1) = vN D d j + if d[j] = D then 1 else 0 := by
  unfold vN
  rw [List.take_succ_eq_append_getElem h, List.filter_append, List.length_append]
  by_cases he : d[j] = D <;> simp [he]
theorem vN_le (D : Int) (d : List Int) (j : Nat) : vN D d j ≤ j := by
  unfold vN
  have := List.length_filter_le (fun z => z == D) (d.take j)
  rw [List.length_take] at this; omega
theorem vN_mono {D : Int} {d : List Int} : ∀ {i j : Nat}, i ≤ j → vN D d i ≤ vN D d j := by
  intro i j h
  unfold vN
  have e : (d.take j).take i = d.take i := by rw [List.take_take, Nat.min_eq_left h]
  rw [← e]
  conv => rhs; rw [← List.take_append_drop i (d.take j)]
  rw [List.filter_append, List.length_append]; omega
theorem vN_lt {D : Int} {d : List Int} {j : Nat} (h : j < d.length) (he : d[j] = D) : vN D d j < vN D d d.length := by
  have h1 := vN_succ (D := D) h
  rw [if_pos he] at h1
  have h2 := vN_mono (D := D) (d := d) (i := j + 1) (j := d.length) (by omega)
  omega
def valsI (D : Int) (d : List Int) : List Int := (List.range d.length).map fun j => (vN D d j : Int)
theorem valsI_len (D : Int) (d : List Int) : (valsI D d).length = d.length := by simp [valsI]
theorem valsI_get {D : Int} {d : List Int} {j : Nat} (h : j < (valsI D d).length) : (valsI D d)[j] = (vN D d j : Int) := by simp [valsI]
def Whole (D : Nat) (C : List Cel) : Prop := ∀ c ∈ C, (c.d = D ↔ c.v.isSome = true)
theorem celV_take' {C : List Cel} {i : Nat} (h : i < C.length) : celV (C.take (i + 1)) = celV (C.take i) ++ (C[i].v).toList := by
  unfold celV
  rw [List.take_succ_eq_append_getElem h, List.filterMap_append]
  cases hv : C[i].v <;> simp [hv]
theorem vN_cel {C : List Cel} {D : Nat} (h : Whole D C) : ∀ (i : Nat), vN (D : Int) (C.map fun c => (c.d : Int)) i = (celV (C.take i)).length
  | 0 => by simp [vN, celV]
  | i + 1 => by
    by_cases hi : i < C.length
    · rw [vN_succ (by simpa using hi), celV_take' hi, List.length_append, vN_cel h i]
      congr 1
      have hw := h C[i] (List.getElem_mem hi)
      simp only [List.getElem_map]
      by_cases hd : C[i].d = D
      · rw [if_pos (by omega)]
        have := hw.1 hd
        cases hv : C[i].v with
        | none => rw [hv] at this; cases this
        | some v => rfl
      · rw [if_neg (by omega)]
        cases hv : C[i].v with
        | none => rfl
        | some v => exact absurd (hw.2 (by rw [hv]; rfl)) hd
    · have e1 : (C.map fun c => (c.d : Int)).take (i + 1) = (C.map fun c => (c.d : Int)).take i := by
        rw [List.take_of_length_le (by simp; omega), List.take_of_length_le (by simp; omega)]
      have e2 : C.take (i + 1) = C.take i := by rw [List.take_of_length_le (by omega), List.take_of_length_le (by omega)]
      have := vN_cel h i
      unfold vN at this ⊢
      rw [e1, e2]; exact this
theorem celV_at {C : List Cel} {i : Nat} (h : i < C.length) {v : Vc} (hv : C[i].v = some v) : (celV C)[(celV (C.take i)).length]? = some v := by
  have e : C = C.take i ++ C[i] :: C.drop (i + 1) := by rw [List.getElem_cons_drop, List.take_append_drop]
  have e2 : celV C = celV (C.take i) ++ v :: celV (C.drop (i + 1)) := by
    conv => lhs; rw [e]
    unfold celV
    rw [List.filterMap_append, List.filterMap_cons, hv]
  rw [e2, List.getElem?_append_right (Nat.le_refl _), Nat.sub_self]
  rfl
def kb (l : List Fl) (i : Nat) : Nat := (leafs l i).length
theorem kb_succ (l : List Fl) (i : Nat) : kb l (i + 1) = kb l i + if (flN l i).kind = 0 then 0 else 1 := by
  unfold kb
  by_cases h : (flN l i).kind = 0
  · rw [leafs_no h, if_pos h]; rfl
  · rw [leafs_yes h, if_neg h, List.length_append]; rfl
theorem kb_mono (l : List Fl) {i j : Nat} (h : i ≤ j) : kb l i ≤ kb l j := by
  induction j with
  | zero => have : i = 0 := by omega
            rw [this]; exact Nat.le_refl _
  | succ j ih =>
    by_cases e : i = j + 1
    · rw [e]; exact Nat.le_refl _
    · have := ih (by omega); rw [kb_succ]; omega
theorem leafs_get (l : List Fl) : ∀ (n k : Nat) (h : k < (leafs l n).length), (leafs l n)[k] < n ∧ (flN l (leafs l n)[k]).kind ≠ 0 ∧ kb l (leafs l n)[k] = k
  | 0, k, h => by simp [leafs] at h
  | n + 1, k, h => by
    by_cases hk : (flN l n).kind = 0
    · have e := leafs_no hk
      have h' : k < (leafs l n).length := by rw [e] at h; exact h
      have := leafs_get l n k h'
      have e2 : (leafs l (n + 1))[k] = (leafs l n)[k] := by simp [e]
      rw [e2]
      exact ⟨by omega, this.2.1, this.2.2⟩
    · have e := leafs_yes hk
      by_cases hl : k < (leafs l n).length
      · have := leafs_get l n k hl
        have e2 : (leafs l (n + 1))[k] = (leafs l n)[k] := by simp [e, hl]
        rw [e2]
        exact ⟨by omega, this.2.1, this.2.2⟩
      · have hkn : k = (leafs l n).length := by rw [e, List.length_append] at h; simp at h; omega
        have e2 : (leafs l (n + 1))[k] = n := by simp [e, hkn]
        rw [e2]
        exact ⟨by omega, hk, hkn.symm⟩
theorem leaf_range {l : List Fl} {k i : Nat} (h : k < (leafs l l.length).length) : (i ≤ (leafs l l.length)[k] ↔ kb l i ≤ k) := by
  obtain ⟨h1, h2, h3⟩ := leafs_get l l.length k h
  constructor
  · intro hi; have := kb_mono l hi; omega
  · intro hi
    by_cases hlt : i ≤ (leafs l l.length)[k]
    · exact hlt
    · have h4 := kb_mono l (show (leafs l l.length)[k] + 1 ≤ i by omega)
      rw [kb_succ, if_neg h2] at h4
      omega
theorem kb_all (l : List Fl) : kb l l.length = (leafs l l.length).length := rfl
theorem kb_grp {l : List Fl} {i : Nat} (h : (flN l i).kind = 0) : kb l (i + 1) = kb l i := by rw [kb_succ, if_pos h]; rfl
end Go.Proofs.Ytjbkjfefjhbolaa
