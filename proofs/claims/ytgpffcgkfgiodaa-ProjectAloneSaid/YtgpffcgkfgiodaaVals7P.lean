/-
  Plain: a leaf's values in a record, and in what is kept of it.
-/
import Derived.Test.YtgpffcgkfgiodaaPrR
import Derived.Test.YtgpffcgkfgiodaaMkBd
set_option linter.unusedSimpArgs false
namespace Go.Proofs.Ytgpffcgkfgiodaa
open Go.RowKit Go.Shr
mutual
/-- A leaf's values in a value of a field at a place. -/
def valsT (lf i : Nat) : Sh → Tr → List Tr
  | .mk _ _ k ks, t => if i = lf then [t] else if k ≠ 0 then [] else valsK lf (i + 1) ks t.kids
def valsK (lf o : Nat) : List Sh → List (List Tr) → List Tr
  | [], _ => []
  | _ :: _, [] => []
  | s :: r, x :: xs => x.flatMap (valsT lf o s) ++ valsK lf (o + s.size) r xs
end
mutual
/-- The same by ways. -/
def valsW (wf pre : List UInt8) : Sh → Tr → List Tr
  | .mk _ _ k ks, t => if pre = wf then [t] else if k ≠ 0 then [] else valsWK wf pre ks t.kids
def valsWK (wf pre : List UInt8) : List Sh → List (List Tr) → List Tr
  | [], _ => []
  | _ :: _, [] => []
  | s :: r, x :: xs => x.flatMap (valsW wf (pre ++ [let1 s.name]) s) ++ valsWK wf pre r xs
end
theorem flatMap_len {g : Tr → List Tr} (h : ∀ t, (g t).length ≤ t.size) : ∀ x : List Tr, (x.flatMap g).length ≤ sizeL x
  | [] => by simp
  | t :: x => by
    have h1 := h t
    have h2 := flatMap_len h x
    rw [List.flatMap_cons, List.length_append]
    simp only [sizeL]
    omega
theorem size_pos' (t : Tr) : 1 ≤ t.size := by cases t; simp only [Tr.size]; omega
mutual
theorem valsT_len (lf : Nat) : ∀ (s : Sh) (i : Nat) (t : Tr), (valsT lf i s t).length ≤ t.size
  | .mk _ _ k ks, i, t => by
    have h1 := size_pos' t
    simp only [valsT]
    split
    · simpa using h1
    · split
      · simp
      · have := valsK_len lf ks (i + 1) t.kids
        cases t
        simp only [Tr.kids, Tr.size] at this ⊢
        omega
theorem valsK_len (lf : Nat) : ∀ (ks : List Sh) (o : Nat) (xs : List (List Tr)), (valsK lf o ks xs).length ≤ sizeLL xs
  | [], o, xs => by simp [valsK]
  | s :: r, o, [] => by simp [valsK]
  | s :: r, o, x :: xs => by
    have h1 := flatMap_len (fun t => valsT_len lf s o t) x
    have h2 := valsK_len lf r (o + s.size) xs
    simp only [valsK, List.length_append, sizeLL]
    omega
end
theorem valsK_snoc {lf : Nat} : ∀ (done : List Sh) (A : List (List Tr)) (o : Nat) (s : Sh) (x : List Tr), A.length = done.length →
    valsK lf o (done ++ [s]) (A ++ [x]) = valsK lf o done A ++ x.flatMap (valsT lf (o + shSizes done) s)
  | [], A, o, s, x, h => by
    obtain rfl := List.eq_nil_of_length_eq_zero h
    simp [valsK, shSizes]
  | d :: done, [], o, s, x, h => by simp at h
  | d :: done, a :: A, o, s, x, h => by
    have ih := valsK_snoc (lf := lf) done A (o + d.size) s x (by simpa using h)
    simp only [List.cons_append, valsK, shSizes]
    rw [ih, Nat.add_assoc, List.append_assoc]
mutual
theorem valsT_W {W : Nat → List UInt8} {wf : List UInt8} {lf n : Nat} (hinj : ∀ a, a < n → (W a = wf ↔ a = lf)) : ∀ (s : Sh) (i : Nat) (pre : List UInt8), i + s.size ≤ n → waysS pre s = (List.range' i s.size).map W → valsT lf i s = valsW wf pre s
  | .mk nm r k ks, i, pre, hn, h => by
    funext t
    have h0 := ways_head h
    have hi : (i = lf) = (pre = wf) := by
      have := hinj i (by simp only [Sh.size] at hn; omega)
      rw [h0] at this
      exact propext this.symm
    simp only [valsT, valsW]
    rw [valsK_W hinj ks (i + 1) pre (by simp only [Sh.size] at hn; omega) (ways_tail h)]
    simp only [hi]
theorem valsK_W {W : Nat → List UInt8} {wf : List UInt8} {lf n : Nat} (hinj : ∀ a, a < n → (W a = wf ↔ a = lf)) : ∀ (ks : List Sh) (i : Nat) (pre : List UInt8), i + shSizes ks ≤ n → waysL pre ks = (List.range' i (shSizes ks)).map W → valsK lf i ks = valsWK wf pre ks
  | [], i, pre, hn, h => by funext xs; simp [valsK, valsWK]
  | s :: r, i, pre, hn, h => by
    funext xs
    cases xs with
    | nil => simp [valsK, valsWK]
    | cons x xs =>
      obtain ⟨h1, h2⟩ := ways_split h
      simp only [shSizes] at hn
      simp only [valsK, valsWK]
      rw [valsK_W hinj r (i + s.size) pre (by omega) h2, valsT_W hinj s i _ (by omega) h1]
end
mutual
theorem valsW_none {wf : List UInt8} : ∀ (s : Sh) (pre : List UInt8), ¬ pre <+: wf → ∀ t, valsW wf pre s t = []
  | .mk _ _ k ks, pre, h, t => by
    simp only [valsW]
    rw [if_neg (show ¬ pre = wf from fun e => h (e ▸ List.prefix_refl _))]
    split
    · rfl
    · exact valsWK_none ks pre h t.kids
theorem valsWK_none {wf : List UInt8} : ∀ (ks : List Sh) (pre : List UInt8), ¬ pre <+: wf → ∀ xs, valsWK wf pre ks xs = []
  | [], pre, h, xs => by simp [valsWK]
  | s :: r, pre, h, [] => by simp [valsWK]
  | s :: r, pre, h, x :: xs => by
    simp only [valsWK]
    rw [valsWK_none r pre h xs, List.append_nil]
    have : ∀ t, valsW wf (pre ++ [let1 s.name]) s t = [] := valsW_none s _ (fun hp => h ((List.prefix_append _ _).trans hp))
    rw [show valsW wf (pre ++ [let1 s.name]) s = fun _ => [] from funext this]
    simp
end
mutual
/-- What lies at a way is no group. -/
def LfS (wf pre : List UInt8) : Sh → Prop
  | .mk _ _ k ks => (pre = wf → k ≠ 0) ∧ LfL wf pre ks
def LfL (wf pre : List UInt8) : List Sh → Prop
  | [] => True
  | s :: r => LfS wf (pre ++ [let1 s.name]) s ∧ LfL wf pre r
end
mutual
theorem lfS_of {wf : List UInt8} : ∀ (s : Sh) (pre : List UInt8), (∀ p ∈ (waysS pre s).zip (flat s), p.1 = wf → p.2.kind ≠ 0) → LfS wf pre s
  | .mk nm r k ks, pre, h => by
    simp only [waysS, flat, List.zip_cons_cons] at h
    simp only [LfS]
    refine ⟨fun e => ?_, lfL_of ks pre fun p hp => h p (List.mem_cons_of_mem _ hp)⟩
    exact h _ (List.mem_cons_self ..) e
theorem lfL_of {wf : List UInt8} : ∀ (ks : List Sh) (pre : List UInt8), (∀ p ∈ (waysL pre ks).zip (flatL ks), p.1 = wf → p.2.kind ≠ 0) → LfL wf pre ks
  | [], pre, h => by simp [LfL]
  | s :: r, pre, h => by
    simp only [waysL, flatL] at h
    rw [List.zip_append (by rw [waysS_len, flat_length])] at h
    simp only [LfL]
    exact ⟨lfS_of s _ fun p hp => h p (List.mem_append_left _ hp), lfL_of r pre fun p hp => h p (List.mem_append_right _ hp)⟩
end
theorem pr_name (K : List UInt8 → Bool) (pre : List UInt8) (s : Sh) : (prW K pre s).name = s.name := by obtain ⟨nm, rp, k, ks⟩ := s; rfl
mutual
theorem valsW_pr {K : List UInt8 → Bool} {wf : List UInt8} (hK : ∀ x, x <+: wf → K x = true) : ∀ (s : Sh) (pre : List UInt8), GoodS s → LfS wf pre s → ∀ t, okT s t → valsW wf pre (prW K pre s) (keptTW K pre s t) = valsW wf pre s t
  | .mk nm r k ks, pre, hg, hl, t, hok => by
    have hok3 := okK_nil hg hok
    simp only [GoodS] at hg
    simp only [LfS] at hl
    simp only [prW, keptTW, valsW, Tr.kids]
    by_cases hp : pre = wf
    · have hks := hg.2.2.2.2.1 (hl.1 hp)
      subst hks
      rw [okK] at hok3
      rw [if_pos hp, if_pos hp]
      cases t
      simp only [Tr.kids] at hok3
      subst hok3
      simp [keptKW, Tr.n, Tr.s]
    · rw [if_neg hp, if_neg hp]
      by_cases hk : k = 0
      · rw [if_neg (by simp [hk]), if_neg (by simp [hk])]
        exact valsWK_pr hK ks pre hg.2.2.2.2.2.2 hl.2 t.kids hok3
      · rw [if_pos hk, if_pos hk]
theorem valsWK_pr {K : List UInt8 → Bool} {wf : List UInt8} (hK : ∀ x, x <+: wf → K x = true) : ∀ (ks : List Sh) (pre : List UInt8), GoodL ks → LfL wf pre ks → ∀ xs, okK ks xs → valsWK wf pre (prWL K pre ks) (keptKW K pre ks xs) = valsWK wf pre ks xs
  | [], pre, hg, hl, xs, hok => by simp [prWL, valsWK]
  | s :: r, pre, hg, hl, [], hok => by rw [okK] at hok; exact hok.elim
  | s :: r, pre, hg, hl, x :: xs, hok => by
    rw [okK] at hok
    simp only [GoodL] at hg
    simp only [LfL] at hl
    have ih := valsWK_pr hK r pre hg.2 hl.2 xs hok.2.2
    simp only [prWL, keptKW]
    by_cases h : K (pre ++ [let1 s.name]) = true
    · rw [if_pos h, if_pos h]
      simp only [valsWK, pr_name]
      rw [ih]
      congr 1
      have h3 : ∀ y : List Tr, (∀ t ∈ y, okT s t) → (y.map (keptTW K (pre ++ [let1 s.name]) s)).flatMap (valsW wf (pre ++ [let1 s.name]) (prW K (pre ++ [let1 s.name]) s)) = y.flatMap (valsW wf (pre ++ [let1 s.name]) s) := by
        intro y
        induction y with
        | nil => intro _; rfl
        | cons t y ihy =>
          intro hy
          rw [List.map_cons, List.flatMap_cons, List.flatMap_cons, ihy fun u hu => hy u (List.mem_cons_of_mem _ hu), valsW_pr hK s _ hg.1 hl.1 t (hy t (List.mem_cons_self ..))]
      exact h3 x hok.2.1
    · rw [if_neg h, if_neg h]
      have hnp : ¬ (pre ++ [let1 s.name]) <+: wf := fun hp => h (hK _ hp)
      simp only [valsWK]
      rw [ih, show valsW wf (pre ++ [let1 s.name]) s = fun _ => [] from funext (valsW_none s _ hnp)]
      simp
end
mutual
theorem keptTW_size {K : List UInt8 → Bool} : ∀ (s : Sh) (pre : List UInt8) (t : Tr), (keptTW K pre s t).size ≤ t.size
  | .mk _ _ _ ks, pre, .mk n s kids => by
    have := keptKW_size (K := K) ks pre kids
    simp only [keptTW, Tr.size, Tr.kids]
    omega
theorem keptKW_size {K : List UInt8 → Bool} : ∀ (ks : List Sh) (pre : List UInt8) (xs : List (List Tr)), sizeLL (keptKW K pre ks xs) ≤ sizeLL xs
  | [], pre, xs => by simp [keptKW, sizeLL]
  | s :: r, pre, [] => by simp [keptKW]
  | s :: r, pre, x :: xs => by
    have h1 := keptKW_size (K := K) r pre xs
    have h2 : ∀ y : List Tr, sizeL (y.map (keptTW K (pre ++ [let1 s.name]) s)) ≤ sizeL y := by
      intro y
      induction y with
      | nil => simp [sizeL]
      | cons t y ih =>
        have := keptTW_size (K := K) s (pre ++ [let1 s.name]) t
        simp only [List.map_cons, sizeL]
        omega
    have h3 := h2 x
    simp only [keptKW]
    split
    · simp only [sizeLL]; omega
    · simp only [sizeLL]; omega
end
/-- The last one kept of a leaf's path is the leaf. -/
theorem SW.last {l : List Fl} {sh : Sh} (h : SW l sh) {f : Nat} (h0 : 0 < f) (hf : f < l.length) (hk : (flN l f).kind ≠ 0) (ha : allA l [ownS l f]) :
    wayAt (kS [ownS l f] sh) ((kL [ownS l f] l sh).length - 1) = wayAt sh f := by
  have hw := h.ways ha
  rw [ways_all sh, List.filter_map, ← List.range_eq_range'] at hw
  have hn : sh.size = l.length := h.sch.len.symm
  rw [hn] at hw
  have hko : ∀ i, i < l.length → (KW [ownS l f] ∘ wayAt sh) i = decide (i ∈ Go.Shr.chain (par l) f) := fun i hi => by
    show KW [ownS l f] (wayAt sh i) = _
    rw [h.wy.KW_one h0 hf hi, Bool.eq_iff_iff, Bool.or_eq_true, decide_eq_true_eq, decide_eq_true_eq]
    constructor
    · rintro (h' | h')
      · rw [← h.sch.leaf_chain hi hk h']; exact chain_self _ _
      · exact h'
    · exact fun h' => .inr h'
  have hfl : (List.range l.length).filter (KW [ownS l f] ∘ wayAt sh) = (List.range l.length).filter fun i => decide (i ∈ Go.Shr.chain (par l) f) :=
    List.filter_congr fun a ha => hko a (List.mem_range.1 ha)
  rw [hfl] at hw
  obtain ⟨B, hB, hBf⟩ := range_split (f := fun i => decide (i ∈ Go.Shr.chain (par l) f)) hf (by simp [chain_self])
  have hB0 : B = [] := by
    rw [List.eq_nil_iff_forall_not_mem]
    intro b hb
    have h1 := hBf b hb
    have h2 : b ∈ (List.range l.length).filter fun i => decide (i ∈ Go.Shr.chain (par l) f) := by rw [hB]; simp [hb]
    have h3 := (List.mem_filter.1 h2).2
    have := chain_le _ _ b (by simpa using h3)
    omega
  rw [hB0] at hB
  rw [hB, List.map_append] at hw
  have hlen : (kL [ownS l f] l sh).length = (waysS [] (kS [ownS l f] sh)).length := by rw [waysS_len, (h.kept ha).sch.len]
  unfold wayAt
  rw [hlen, hw]
  simp [wayAt]
/-- The leaf's values are the same. -/
theorem SW.alone {l : List Fl} {sh : Sh} (h : SW l sh) {f : Nat} (h0 : 0 < f) (hf : f < l.length) (hk : (flN l f).kind ≠ 0) (ha : allA l [ownS l f]) {t : Tr} (hok : okT sh t) :
    valsT ((kL [ownS l f] l sh).length - 1) 0 (kS [ownS l f] sh) (keptTW (KW [ownS l f]) [] sh t) = valsT f 0 sh t := by
  have hK := h.kept ha
  have hl := h.last h0 hf hk ha
  have hsz := h.sch.len
  have hsz2 := hK.sch.len
  have hpos := hK.wy.pos
  have e1 : valsT f 0 sh = valsW (wayAt sh f) [] sh := valsT_W (n := l.length) (fun a hal => ⟨fun e => h.wy.inj a f hal hf e, fun e => by rw [e]⟩) sh 0 [] (by omega) (ways_all sh)
  have e2 : valsT ((kL [ownS l f] l sh).length - 1) 0 (kS [ownS l f] sh) = valsW (wayAt sh f) [] (kS [ownS l f] sh) := by
    rw [← hl]
    exact valsT_W (n := (kL [ownS l f] l sh).length) (fun a hal => ⟨fun e => hK.wy.inj a _ hal (by omega) e, fun e => by rw [e]⟩) (kS [ownS l f] sh) 0 [] (by omega) (ways_all _)
  rw [e1, e2]
  unfold kS
  refine valsW_pr (fun x hx => ?_) sh [] h.sch.good (lfS_of sh [] fun p hp e => ?_) t hok
  · refine (KW_iff (h.pw ha)).2 (.inr ⟨_, List.mem_singleton.2 rfl, _, h.wy.ne h0 hf, ?_, .inr hx⟩)
    exact h.wy.own h0 hf
  · obtain ⟨j, hj, hje⟩ := List.getElem_of_mem hp
    rw [List.getElem_zip] at hje
    have hjl : j < l.length := by
      have := hj
      rw [List.length_zip, waysS_len, flat_length] at this
      omega
    have h1 : p.1 = wayAt sh j := by
      rw [← hje]
      simp only [wayAt]
      rw [List.getD_eq_getElem?_getD, List.getElem?_eq_getElem]
      rfl
    have h2 : p.2 = flN l j := by
      rw [← hje, flN_eq hjl]
      simp only [h.sch.flat]
    rw [h1] at e
    have := h.wy.inj j f hjl hf e
    rw [h2, this]
    exact hk
end Go.Proofs.Ytgpffcgkfgiodaa
