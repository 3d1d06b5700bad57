/-
  Plain: what is kept of a shape, of a tree. Plain: the schema of what is kept. Plain: keeping by ways: once, twice, less.
-/
import Derived.Test.YtgpffcgkfgiodaaOne7P
import Derived.Test.YtgpffcgkfgiodaaOkP
set_option linter.unusedSimpArgs false
namespace Go.Proofs.Ytgpffcgkfgiodaa
open Go.RowKit Go.Shr
mutual
/-- What is kept of a shape at a place. -/
def prS (f : Nat → Bool) (i : Nat) : Sh → Sh
  | .mk nm r k ks => .mk nm r k (prL f (i + 1) ks)
def prL (f : Nat → Bool) (i : Nat) : List Sh → List Sh
  | [] => []
  | s :: r => if f i = true then prS f i s :: prL f (i + s.size) r else prL f (i + s.size) r
end
mutual
/-- What is kept of a tree of a shape at a place. -/
def keptT (f : Nat → Bool) (i : Nat) : Sh → Tr → Tr
  | .mk _ _ _ ks, t => .mk t.n t.s (keptK f (i + 1) ks t.kids)
def keptK (f : Nat → Bool) (i : Nat) : List Sh → List (List Tr) → List (List Tr)
  | [], _ => []
  | _ :: _, [] => []
  | s :: r, x :: xs => if f i = true then x.map (keptT f i s) :: keptK f (i + s.size) r xs else keptK f (i + s.size) r xs
end
mutual
/-- The same by ways. -/
def prW (K : List UInt8 → Bool) (pre : List UInt8) : Sh → Sh
  | .mk nm r k ks => .mk nm r k (prWL K pre ks)
def prWL (K : List UInt8 → Bool) (pre : List UInt8) : List Sh → List Sh
  | [] => []
  | s :: r => if K (pre ++ [let1 s.name]) = true then prW K (pre ++ [let1 s.name]) s :: prWL K pre r else prWL K pre r
end
mutual
def keptTW (K : List UInt8 → Bool) (pre : List UInt8) : Sh → Tr → Tr
  | .mk _ _ _ ks, t => .mk t.n t.s (keptKW K pre ks t.kids)
def keptKW (K : List UInt8 → Bool) (pre : List UInt8) : List Sh → List (List Tr) → List (List Tr)
  | [], _ => []
  | _ :: _, [] => []
  | s :: r, x :: xs => if K (pre ++ [let1 s.name]) = true then x.map (keptTW K (pre ++ [let1 s.name]) s) :: keptKW K pre r xs else keptKW K pre r xs
end
/-! From places to ways. -/
theorem ways_split {W : Nat → List UInt8} {pre : List UInt8} {s : Sh} {r : List Sh} {o : Nat} (h : waysL pre (s :: r) = (List.range' o (shSizes (s :: r))).map W) :
    waysS (pre ++ [let1 s.name]) s = (List.range' o s.size).map W ∧ waysL pre r = (List.range' (o + s.size) (shSizes r)).map W := by
  simp only [waysL, shSizes] at h
  rw [← List.range'_append_1, List.map_append] at h
  exact List.append_inj h (by rw [waysS_len]; simp)
theorem ways_head {W : Nat → List UInt8} {pre : List UInt8} {s : Sh} {o : Nat} (h : waysS pre s = (List.range' o s.size).map W) : W o = pre := by
  obtain ⟨nm, r, k, ks⟩ := s
  simp only [waysS, Sh.size, Nat.add_comm 1 (shSizes ks), List.range'_succ, List.map_cons] at h
  injection h with h1 h2
  exact h1.symm
theorem ways_tail {W : Nat → List UInt8} {pre : List UInt8} {nm : ByteArray} {r k : Int} {ks : List Sh} {o : Nat} (h : waysS pre (.mk nm r k ks) = (List.range' o (Sh.mk nm r k ks).size).map W) : waysL pre ks = (List.range' (o + 1) (shSizes ks)).map W := by
  simp only [waysS, Sh.size, Nat.add_comm 1 (shSizes ks), List.range'_succ, List.map_cons] at h
  injection h with h1 h2
mutual
theorem prS_prW {f : Nat → Bool} {K : List UInt8 → Bool} {W : Nat → List UInt8} (hf : ∀ a, f a = K (W a)) : ∀ (s : Sh) (i : Nat) (pre : List UInt8), waysS pre s = (List.range' i s.size).map W → prS f i s = prW K pre s
  | .mk nm r k ks, i, pre, h => by
    simp only [prS, prW]
    rw [prL_prW hf ks (i + 1) pre (ways_tail h)]
theorem prL_prW {f : Nat → Bool} {K : List UInt8 → Bool} {W : Nat → List UInt8} (hf : ∀ a, f a = K (W a)) : ∀ (ks : List Sh) (i : Nat) (pre : List UInt8), waysL pre ks = (List.range' i (shSizes ks)).map W → prL f i ks = prWL K pre ks
  | [], i, pre, h => by simp [prL, prWL]
  | s :: r, i, pre, h => by
    obtain ⟨h1, h2⟩ := ways_split h
    simp only [prL, prWL]
    rw [prL_prW hf r (i + s.size) pre h2, prS_prW hf s i _ h1, hf i, ways_head h1]
end
mutual
theorem keptT_W {f : Nat → Bool} {K : List UInt8 → Bool} {W : Nat → List UInt8} (hf : ∀ a, f a = K (W a)) : ∀ (s : Sh) (i : Nat) (pre : List UInt8), waysS pre s = (List.range' i s.size).map W → keptT f i s = keptTW K pre s
  | .mk nm r k ks, i, pre, h => by
    funext t
    simp only [keptT, keptTW]
    rw [keptK_W hf ks (i + 1) pre (ways_tail h)]
theorem keptK_W {f : Nat → Bool} {K : List UInt8 → Bool} {W : Nat → List UInt8} (hf : ∀ a, f a = K (W a)) : ∀ (ks : List Sh) (i : Nat) (pre : List UInt8), waysL pre ks = (List.range' i (shSizes ks)).map W → ∀ xs, keptK f i ks xs = keptKW K pre ks xs
  | [], i, pre, h, xs => by simp [keptK, keptKW]
  | s :: r, i, pre, h, [] => by simp [keptK, keptKW]
  | s :: r, i, pre, h, x :: xs => by
    obtain ⟨h1, h2⟩ := ways_split h
    simp only [keptK, keptKW]
    rw [keptK_W hf r (i + s.size) pre h2, keptT_W hf s i _ h1, hf i, ways_head h1]
end
theorem ways_all (sh : Sh) : waysS [] sh = (List.range' 0 sh.size).map (wayAt sh) := by
  refine List.ext_getElem (by simp [waysS_len]) fun a h1 h2 => ?_
  simp [wayAt, h1]
/-! Keeping twice. -/
mutual
theorem prW_prW (K L : List UInt8 → Bool) : ∀ (s : Sh) (pre : List UInt8), prW L pre (prW K pre s) = prW (fun x => K x && L x) pre s
  | .mk nm r k ks, pre => by simp only [prW, prWL_prW K L ks pre]
theorem prWL_prW (K L : List UInt8 → Bool) : ∀ (ks : List Sh) (pre : List UInt8), prWL L pre (prWL K pre ks) = prWL (fun x => K x && L x) pre ks
  | [], _ => by simp [prWL]
  | s :: r, pre => by
    have hn : (prW K (pre ++ [let1 s.name]) s).name = s.name := by obtain ⟨nm, rp, k, ks⟩ := s; rfl
    by_cases h : K (pre ++ [let1 s.name]) = true
    · by_cases h2 : L (pre ++ [let1 s.name]) = true
      · simp only [prWL, h, h2, if_true, hn, prW_prW K L s, prWL_prW K L r, Bool.and_self]
      · simp only [prWL, h, h2, if_true, hn, prWL_prW K L r, Bool.true_and]
        simp
    · have h' : K (pre ++ [let1 s.name]) = false := by simpa using h
      simp only [prWL, h', prWL_prW K L r, Bool.false_and]
      simp [prWL_prW K L r]
end
mutual
theorem keptTW_twice (K L : List UInt8 → Bool) : ∀ (s : Sh) (pre : List UInt8) (t : Tr), keptTW L pre (prW K pre s) (keptTW K pre s t) = keptTW (fun x => K x && L x) pre s t
  | .mk nm r k ks, pre, .mk n s kids => by simp only [prW, keptTW, Tr.n, Tr.s, Tr.kids, keptKW_twice K L ks pre kids]
theorem keptKW_twice (K L : List UInt8 → Bool) : ∀ (ks : List Sh) (pre : List UInt8) (xs : List (List Tr)), keptKW L pre (prWL K pre ks) (keptKW K pre ks xs) = keptKW (fun x => K x && L x) pre ks xs
  | [], _, _ => by simp [keptKW, prWL]
  | s :: r, pre, [] => by
    simp only [keptKW]
    cases prWL K pre (s :: r) <;> simp [keptKW]
  | s :: r, pre, x :: xs => by
    have hn : (prW K (pre ++ [let1 s.name]) s).name = s.name := by obtain ⟨nm, rp, k, ks⟩ := s; rfl
    by_cases h : K (pre ++ [let1 s.name]) = true
    · by_cases h2 : L (pre ++ [let1 s.name]) = true
      · simp only [prWL, keptKW, h, h2, if_true, hn, keptKW_twice K L r, Bool.and_self, List.map_map]
        congr 1
        refine List.map_congr_left fun t _ => ?_
        exact keptTW_twice K L s _ t
      · simp only [prWL, keptKW, h, h2, if_true, hn, keptKW_twice K L r, Bool.true_and]
        simp
    · have h' : K (pre ++ [let1 s.name]) = false := by simpa using h
      simp only [prWL, keptKW, h', Bool.false_and]
      simp [keptKW_twice K L r]
end
mutual
theorem prW_congr {K L : List UInt8 → Bool} : ∀ (s : Sh) (pre : List UInt8), (∀ x ∈ waysS pre s, K x = L x) → prW K pre s = prW L pre s
  | .mk nm r k ks, pre, h => by
    simp only [prW, prWL_congr ks pre (fun x hx => h x (by simp only [waysS]; exact List.mem_cons_of_mem _ hx))]
theorem prWL_congr {K L : List UInt8 → Bool} : ∀ (ks : List Sh) (pre : List UInt8), (∀ x ∈ waysL pre ks, K x = L x) → prWL K pre ks = prWL L pre ks
  | [], _, _ => by simp [prWL]
  | s :: r, pre, h => by
    have h1 := prW_congr s (pre ++ [let1 s.name]) (fun x hx => h x (by simp only [waysL]; exact List.mem_append_left _ hx))
    have h2 := prWL_congr r pre (fun x hx => h x (by simp only [waysL]; exact List.mem_append_right _ hx))
    have h3 : K (pre ++ [let1 s.name]) = L (pre ++ [let1 s.name]) := h _ (by
      simp only [waysL]
      refine List.mem_append_left _ ?_
      obtain ⟨nm, rp, k, ks⟩ := s
      simp only [waysS]; exact List.mem_cons_self)
    simp only [prWL, h1, h2, h3]
end
mutual
theorem keptTW_congr {K L : List UInt8 → Bool} : ∀ (s : Sh) (pre : List UInt8), (∀ x ∈ waysS pre s, K x = L x) → ∀ t, keptTW K pre s t = keptTW L pre s t
  | .mk nm r k ks, pre, h, t => by
    simp only [keptTW, keptKW_congr ks pre (fun x hx => h x (by simp only [waysS]; exact List.mem_cons_of_mem _ hx))]
theorem keptKW_congr {K L : List UInt8 → Bool} : ∀ (ks : List Sh) (pre : List UInt8), (∀ x ∈ waysL pre ks, K x = L x) → ∀ xs, keptKW K pre ks xs = keptKW L pre ks xs
  | [], _, _, _ => by simp [keptKW]
  | s :: r, pre, h, [] => by simp [keptKW]
  | s :: r, pre, h, x :: xs => by
    have h1 := fun t => keptTW_congr s (pre ++ [let1 s.name]) (fun x hx => h x (by simp only [waysL]; exact List.mem_append_left _ hx)) t
    have h2 := keptKW_congr r pre (fun x hx => h x (by simp only [waysL]; exact List.mem_append_right _ hx)) xs
    have h3 : K (pre ++ [let1 s.name]) = L (pre ++ [let1 s.name]) := h _ (by
      simp only [waysL]
      refine List.mem_append_left _ ?_
      obtain ⟨nm, rp, k, ks⟩ := s
      simp only [waysS]; exact List.mem_cons_self)
    simp only [keptKW, h2, h3]
    rw [List.map_congr_left (fun t _ => h1 t)]
end
mutual
theorem prW_true : ∀ (s : Sh) (pre : List UInt8), prW (fun _ => true) pre s = s
  | .mk nm r k ks, pre => by simp only [prW, prWL_true ks pre]
theorem prWL_true : ∀ (ks : List Sh) (pre : List UInt8), prWL (fun _ => true) pre ks = ks
  | [], _ => by simp [prWL]
  | s :: r, pre => by simp only [prWL, if_true, prW_true s, prWL_true r]
end
theorem okK_nil {ks : List Sh} {kd : Int} {t : Tr} {nm : ByteArray} {rp : Int} (hg : GoodS (.mk nm rp kd ks)) (h : okT (.mk nm rp kd ks) t) : okK ks t.kids := by
  simp only [GoodS] at hg
  rw [okT] at h
  by_cases hk : kd = 0
  · subst hk
    rw [if_neg (by decide), if_neg (by decide), if_neg (by decide), if_neg (by decide)] at h
    exact h.2.2
  · have hks := hg.2.2.2.2.1 hk
    subst hks
    rw [okK]
    by_cases k1 : kd = 1
    · rw [if_pos k1] at h; exact h.2.2
    · rw [if_neg k1] at h
      by_cases k2 : kd = 2
      · rw [if_pos k2] at h; exact h.2.2
      · rw [if_neg k2] at h
        by_cases k3 : kd = 3
        · rw [if_pos k3] at h; exact h.2.2
        · rw [if_neg k3, if_pos (by omega)] at h; exact h.2.2
mutual
theorem keptTW_true : ∀ (s : Sh) (pre : List UInt8) (t : Tr), GoodS s → okT s t → keptTW (fun _ => true) pre s t = t
  | .mk nm r k ks, pre, .mk n s kids, hg, h => by
    have h1 := okK_nil hg h
    simp only [GoodS] at hg
    simp only [keptTW, Tr.n, Tr.s, Tr.kids] at h1 ⊢
    rw [keptKW_true ks pre kids hg.2.2.2.2.2.2 h1]
theorem keptKW_true : ∀ (ks : List Sh) (pre : List UInt8) (xs : List (List Tr)), GoodL ks → okK ks xs → keptKW (fun _ => true) pre ks xs = xs
  | [], _, xs, _, h => by rw [okK] at h; subst h; simp [keptKW]
  | s :: r, _, [], _, h => by rw [okK] at h; exact h.elim
  | s :: r, pre, x :: xs, hg, h => by
    rw [okK] at h
    simp only [GoodL] at hg
    simp only [keptKW, if_true, keptKW_true r pre xs hg.2 h.2.2]
    congr 1
    refine (List.map_congr_left (g := id) fun t ht => ?_).trans (List.map_id x)
    exact keptTW_true s _ t hg.1 (h.2.1 t ht)
end
mutual
theorem okT_pr {K : List UInt8 → Bool} : ∀ (s : Sh) (pre : List UInt8) (t : Tr), GoodS s → okT s t → okT (prW K pre s) (keptTW K pre s t)
  | .mk nm r k ks, pre, .mk n s kids, hg, h => by
    have h1 := okK_nil hg h
    have h2 := okK_pr (K := K) ks pre kids (by simp only [GoodS] at hg; exact hg.2.2.2.2.2.2) h1
    simp only [prW, keptTW, Tr.n, Tr.s, Tr.kids]
    rw [okT] at h ⊢
    by_cases hk : k = 0
    · subst hk
      rw [if_neg (by decide), if_neg (by decide), if_neg (by decide), if_neg (by decide)] at h ⊢
      exact ⟨h.1, h.2.1, h2⟩
    · simp only [GoodS] at hg
      have hks := hg.2.2.2.2.1 hk
      subst hks
      simp only [keptKW]
      rw [okK] at h1
      by_cases k1 : k = 1
      · rw [if_pos k1] at h ⊢; exact ⟨h.1, h.2.1, rfl⟩
      · rw [if_neg k1] at h ⊢
        by_cases k2 : k = 2
        · rw [if_pos k2] at h ⊢; exact ⟨h.1, h.2.1, rfl⟩
        · rw [if_neg k2] at h ⊢
          by_cases k3 : k = 3
          · rw [if_pos k3] at h ⊢; exact ⟨h.1, h.2.1, rfl⟩
          · rw [if_neg k3, if_pos (by omega)] at h ⊢; exact ⟨h.1, h.2.1, rfl⟩
theorem okK_pr {K : List UInt8 → Bool} : ∀ (ks : List Sh) (pre : List UInt8) (xs : List (List Tr)), GoodL ks → okK ks xs → okK (prWL K pre ks) (keptKW K pre ks xs)
  | [], _, xs, _, h => by simp [prWL, keptKW, okK]
  | s :: r, _, [], _, h => by rw [okK] at h; exact h.elim
  | s :: r, pre, x :: xs, hg, h => by
    rw [okK] at h
    simp only [GoodL] at hg
    have h2 := okK_pr (K := K) r pre xs hg.2 h.2.2
    by_cases hK : K (pre ++ [let1 s.name]) = true
    · simp only [prWL, keptKW, hK, if_true]
      rw [okK]
      refine ⟨?_, fun t ht => ?_, h2⟩
      · have : (prW K (pre ++ [let1 s.name]) s).rep = s.rep := by obtain ⟨nm, rp, k, ks⟩ := s; rfl
        rw [this, List.length_map]; exact h.1
      · obtain ⟨u, hu, rfl⟩ := List.mem_map.1 ht
        exact okT_pr s _ u hg.1 (h.2.1 u hu)
    · simp only [prWL, keptKW, hK, if_false]
      exact h2
end
end Go.Proofs.Ytgpffcgkfgiodaa
namespace Go.Proofs.Ytgpffcgkfgiodaa
open Go.RowKit Go.Shr
/-- What is kept with its groups; a group with one of its fields. -/
structure KO (l : List Fl) (f : Nat → Bool) : Prop where
  root : f 0 = true
  up : ∀ (i k : Nat), i < l.length → f i = true → (par l)[i]? = some (k : Int) → f k = true
  kid : ∀ i, i < l.length → f i = true → (flN l i).kind = 0 → ∃ j, j < l.length ∧ (par l)[j]? = some (i : Int) ∧ f j = true
theorem mem_kidsOf {l : List Fl} {i j : Nat} : (j : Int) ∈ kidsOf (par l) (i : Int) ↔ (par l)[j]? = some (i : Int) := by
  simp only [kidsOf, List.mem_map, List.mem_filter, List.mem_range]
  constructor
  · rintro ⟨a, ⟨h1, h2⟩, h3⟩
    obtain rfl : a = j := by omega
    rw [List.getElem?_eq_getElem h1]
    rw [List.getD_eq_getElem?_getD, List.getElem?_eq_getElem h1] at h2
    simpa using h2
  · intro h
    obtain ⟨h1, h2⟩ := getElem?_par h
    refine ⟨j, ⟨h1, ?_⟩, rfl⟩
    rw [List.getD_eq_getElem?_getD, h]; simp
theorem cnt_kids {f : Nat → Bool} {P : List Int} {i : Nat} : cnt f P P.length i = ((kidsOf P (i : Int)).filter fun j => f j.toNat).length := by
  unfold cnt kidsOf
  rw [List.filter_map, List.length_map, List.filter_filter]
  congr 1
  refine List.filter_congr fun j hj => ?_
  have hj' := List.mem_range.1 hj
  rw [List.getD_eq_getElem?_getD, List.getD_eq_getElem?_getD, List.getElem?_eq_getElem hj']
  simp
theorem prL_len {f : Nat → Bool} : ∀ (ks : List Sh) (o : Nat), (prL f o ks).length = ((offs o ks).filter fun j => f j.toNat).length
  | [], _ => by simp [prL, offs]
  | s :: r, o => by
    have ih := prL_len (f := f) r (o + s.size)
    simp only [prL, offs, List.filter_cons]
    by_cases h : f o = true
    · simp [h, ih]
    · simp [h, ih]
/-- Of a field: its cells as they are kept. -/
def kfl (f : Nat → Bool) (l : List Fl) (a : Nat) : Fl := ⟨(flN l a).name, (flN l a).rep, (flN l a).kind, (cnt f (par l) l.length a : Int)⟩
theorem keptL_kfl (f : Nat → Bool) (l : List Fl) : keptL f l = ((List.range l.length).filter f).map (kfl f l) := rfl
mutual
theorem none_S {l : List Fl} {f : Nat → Bool} (hf : KO l f) : ∀ (s : Sh) (i : Nat), Ix l (fun v => kidsOf (par l) v) i s → i + s.size ≤ l.length → f i = false → ∀ j, i ≤ j → j < i + s.size → f j = false
  | .mk nm r k ks, i, h, hl, h0, j, h1, h2 => by
    simp only [Ix] at h
    simp only [Sh.size] at h2 hl
    by_cases e : j = i
    · rw [e]; exact h0
    · refine none_L hf ks (i + 1) h.2.2 (by omega) (fun o ho => ?_) j (by omega) (by omega)
      rw [← h.2.1] at ho
      have hm := kidsOf_mem ho
      obtain ⟨q, rfl⟩ : ∃ q : Nat, o = q := ⟨o.toNat, by omega⟩
      rw [Int.toNat_natCast]
      cases hq : f q with
      | false => rfl
      | true =>
        have := hf.up q i (by rw [par_length] at hm; omega) hq (mem_kidsOf.1 ho)
        rw [h0] at this; cases this
theorem none_L {l : List Fl} {f : Nat → Bool} (hf : KO l f) : ∀ (ks : List Sh) (o : Nat), IxL l (fun v => kidsOf (par l) v) o ks → o + shSizes ks ≤ l.length → (∀ j ∈ offs o ks, f j.toNat = false) → ∀ j, o ≤ j → j < o + shSizes ks → f j = false
  | [], o, _, _, _, j, h1, h2 => by simp only [shSizes] at h2; omega
  | s :: r, o, h, hl, h0, j, h1, h2 => by
    simp only [IxL] at h
    simp only [shSizes] at h2 hl
    simp only [offs] at h0
    by_cases hj : j < o + s.size
    · exact none_S hf s o h.1 (by omega) (by simpa using h0 o List.mem_cons_self) j h1 hj
    · exact none_L hf r (o + s.size) h.2 (by omega) (fun x hx => h0 x (List.mem_cons_of_mem _ hx)) j (by omega) (by omega)
end
theorem range_filter_none {f : Nat → Bool} {o m : Nat} (h : ∀ j, o ≤ j → j < o + m → f j = false) : (List.range' o m).filter f = [] := by
  rw [List.filter_eq_nil_iff]
  intro j hj
  have := List.mem_range'_1.1 hj
  rw [h j this.1 this.2]; simp
mutual
theorem flat_pr {l : List Fl} {f : Nat → Bool} (hf : KO l f) : ∀ (s : Sh) (i : Nat), Ix l (fun v => kidsOf (par l) v) i s → i + s.size ≤ l.length → f i = true → flat (prS f i s) = ((List.range' i s.size).filter f).map (kfl f l)
  | .mk nm r k ks, i, h, hl, h0 => by
    simp only [Ix] at h
    simp only [Sh.size] at hl
    have hn : flN l i = ⟨nm, r, k, ks.length⟩ := by unfold flN; rw [List.getD_eq_getElem?_getD, h.1]; rfl
    simp only [prS, flat, Sh.size]
    rw [Nat.add_comm 1, List.range'_succ, List.filter_cons, if_pos h0, List.map_cons, flatL_pr hf ks (i + 1) h.2.2 (by omega)]
    congr 1
    unfold kfl
    rw [hn]
    have : (cnt f (par l) l.length i) = (prL f (i + 1) ks).length := by
      rw [← par_length l, cnt_kids, prL_len, h.2.1]
    rw [this]
theorem flatL_pr {l : List Fl} {f : Nat → Bool} (hf : KO l f) : ∀ (ks : List Sh) (o : Nat), IxL l (fun v => kidsOf (par l) v) o ks → o + shSizes ks ≤ l.length → flatL (prL f o ks) = ((List.range' o (shSizes ks)).filter f).map (kfl f l)
  | [], o, _, _ => by simp [prL, flatL, shSizes]
  | s :: r, o, h, hl => by
    simp only [IxL] at h
    simp only [shSizes] at hl ⊢
    rw [← List.range'_append_1, List.filter_append, List.map_append]
    have h2 := flatL_pr hf r (o + s.size) h.2 (by omega)
    by_cases h0 : f o = true
    · simp only [prL, h0, if_true, flatL]
      rw [flat_pr hf s o h.1 (by omega) h0, h2]
    · have h0' : f o = false := by simpa using h0
      simp only [prL, h0', Bool.false_eq_true, if_false]
      rw [h2, range_filter_none (none_S hf s o h.1 (by omega) h0')]
      rfl
end
mutual
theorem good_pr {l : List Fl} {f : Nat → Bool} (hf : KO l f) : ∀ (s : Sh) (i : Nat), Ix l (fun v => kidsOf (par l) v) i s → i + s.size ≤ l.length → GoodS s → f i = true → GoodS (prS f i s)
  | .mk nm r k ks, i, h, hl, hg, h0 => by
    simp only [Ix] at h
    simp only [Sh.size] at hl
    have hn : flN l i = ⟨nm, r, k, ks.length⟩ := by unfold flN; rw [List.getD_eq_getElem?_getD, h.1]; rfl
    simp only [GoodS] at hg
    simp only [prS, GoodS]
    refine ⟨hg.1, hg.2.1, hg.2.2.1, hg.2.2.2.1, fun hk => by rw [hg.2.2.2.2.1 hk]; simp [prL], fun hk => ?_, goodL_pr hf ks (i + 1) h.2.2 (by omega) hg.2.2.2.2.2.2⟩
    obtain ⟨j, hj, hp, hfj⟩ := hf.kid i (by omega) h0 (by rw [hn]; exact hk)
    have hm := mem_kidsOf.2 hp
    have h21 : kidsOf (par l) (i : Int) = offs (i + 1) ks := h.2.1
    rw [h21] at hm
    intro e
    have hlen := prL_len (f := f) ks (i + 1)
    rw [e] at hlen
    have : (j : Int) ∈ (offs (i + 1) ks).filter fun j => f j.toNat := List.mem_filter.2 ⟨hm, by simpa using hfj⟩
    have := List.length_pos_of_mem this
    simp at hlen; omega
theorem goodL_pr {l : List Fl} {f : Nat → Bool} (hf : KO l f) : ∀ (ks : List Sh) (o : Nat), IxL l (fun v => kidsOf (par l) v) o ks → o + shSizes ks ≤ l.length → GoodL ks → GoodL (prL f o ks)
  | [], _, _, _, _ => by simp [prL, GoodL]
  | s :: r, o, h, hl, hg => by
    simp only [IxL] at h
    simp only [GoodL] at hg
    simp only [shSizes] at hl
    have h2 := goodL_pr hf r (o + s.size) h.2 (by omega) hg.2
    by_cases h0 : f o = true
    · simp only [prL, h0, if_true, GoodL]
      exact ⟨good_pr hf s o h.1 (by omega) hg.1 h0, h2⟩
    · simp only [prL, h0, if_false]
      exact h2
end
/-- What is kept is a schema. -/
theorem Sch.kept {l : List Fl} {sh : Sh} (h : Sch l sh) {f : Nat → Bool} (hf : KO l f) : Sch (keptL f l) (prS f 0 sh) := by
  have hl := h.len
  have h1 := flat_pr hf sh 0 h.ix (by omega) hf.root
  have h2 : keptL f l = Go.Proofs.Ytgpffcgkfgiodaa.flat (prS f 0 sh) := by rw [keptL_kfl, h1, hl, List.range_eq_range']
  refine ⟨h2, good_pr hf sh 0 h.ix (by omega) h.good hf.root, ?_, ?_⟩
  · have := h.kind
    obtain ⟨nm, r, k, ks⟩ := sh
    exact this
  · rw [← flat_length, ← h2, keptL_len]
    have := rank_le (f := f) (m := l.length)
    have := h.size
    omega
theorem keptL_nms {l : List Fl} (h : Nms l) (f : Nat → Bool) : Nms (keptL f l) := by
  refine ⟨fun x hx => ?_, ?_⟩
  · obtain ⟨a, ha, rfl⟩ := List.mem_map.1 hx
    have := List.mem_range.1 (List.mem_filter.1 ha).1
    dsimp only
    rw [flN_eq this]
    exact h.1 _ (List.getElem_mem this)
  · have e : (keptL f l).map (fun x => let1 x.name) = ((List.range l.length).filter f).map fun a => let1 (flN l a).name := by
      unfold keptL keptG; rw [List.map_map]; rfl
    have e2 : l.map (fun x => let1 x.name) = (List.range l.length).map fun a => let1 (flN l a).name := by
      refine List.ext_getElem (by simp) fun a h1 h2 => ?_
      simp only [List.getElem_map, List.getElem_range]
      rw [flN_eq (by simpa using h1)]
    rw [e]
    have h2 := h.2
    rw [e2] at h2
    exact h2.sublist (List.filter_sublist.map _)
theorem keptL_wy {l : List Fl} {sh : Sh} (h : Sch l sh) (hl : l.length ≤ 20) (hn : Nms l) {f : Nat → Bool} (hf : KO l f) : Wy (keptL f l) (wayAt (prS f 0 sh)) :=
  Wy.mk' (h.kept hf) (by rw [keptL_len]; have := rank_le (f := f) (m := l.length); omega) (keptL_nms hn f)
/-! Which fields paths keep: with their groups, a group with one of its fields. -/
theorem chain_child (P : List Int) : ∀ (a i : Nat), i ∈ Go.Shr.chain P a → i ≠ a → ∃ j, j ∈ Go.Shr.chain P a ∧ P.getD j (-1) = (i : Int) := by
  intro a
  induction a using Nat.strongRecOn with
  | _ a ih =>
    intro i hi hne
    rw [Go.Shr.chain] at hi
    split at hi
    · rename_i h
      rcases List.mem_cons.1 hi with e | hi
      · exact absurd e hne
      · by_cases e : i = (P.getD a (-1)).toNat
        · exact ⟨a, chain_self _ _, by omega⟩
        · obtain ⟨j, h1, h2⟩ := ih _ h.2 i hi e
          refine ⟨j, ?_, h2⟩
          rw [Go.Shr.chain, dif_pos h]
          exact List.mem_cons_of_mem _ h1
    · exact absurd (by simpa using hi) hne
theorem Sch.some_kid {l : List Fl} {sh : Sh} (h : Sch l sh) {i : Nat} (hi : i < l.length) (hk : (flN l i).kind = 0) : ∃ j, j < l.length ∧ (par l)[j]? = some (i : Int) := by
  obtain ⟨s', h1, h2⟩ := ix_sub sh 0 h.ix h.good i (Nat.zero_le _) (by have := h.len; omega)
  obtain ⟨nm, r, k, ks⟩ := s'
  simp only [Ix] at h1
  simp only [GoodS] at h2
  have hn : flN l i = ⟨nm, r, k, ks.length⟩ := by unfold flN; rw [List.getD_eq_getElem?_getD, h1.1]; rfl
  have hne := h2.2.2.2.2.2.1 (by rw [hn] at hk; exact hk)
  cases ks with
  | nil => exact absurd rfl hne
  | cons s r =>
    have hm : ((i + 1 : Nat) : Int) ∈ kidsOf (par l) (i : Int) := by
      have h21 : kidsOf (par l) (i : Int) = offs (i + 1) (s :: r) := h1.2.1
      rw [h21]
      simp only [offs]; exact List.mem_cons_self
    have hp := mem_kidsOf.1 hm
    obtain ⟨h3, _⟩ := getElem?_par hp
    exact ⟨i + 1, by rw [par_length] at h3; exact h3, hp⟩
theorem Wy.ko {l : List Fl} {sh : Sh} {W : Nat → List UInt8} (h : Wy l W) (hS : Sch l sh) {ps : List ByteArray} (ha : allA l ps) : KO l (fun k => KW ps (W k)) := by
  have hcl : ∀ (i k : Nat), i < l.length → KW ps (W i) = true → (par l)[i]? = some (k : Int) → KW ps (W k) = true := fun i k hi hk hp => by
    have hki := (h.chain_up hi hp).1
    rw [← h.kpF_eq ha i hi] at hk
    rw [← h.kpF_eq ha k (by omega)]
    exact h.closed ps i k hi hk hp
  refine ⟨?_, hcl, fun i hi hk hkd => ?_⟩
  · show KW ps (W 0) = true
    rw [h.root]
    unfold KW kp
    cases ps with
    | nil => rfl
    | cons p r => simp [byts]
  · have hk' : KW ps (W i) = true := hk
    obtain ⟨j0, hj0, hp0⟩ := hS.some_kid hi hkd
    rw [← h.kpR_eq ha i hi] at hk'
    unfold kpR at hk'
    rw [Bool.or_eq_true] at hk'
    have conv : ∀ j, j < l.length → (kpR l ps j = true) → KW ps (W j) = true := fun j hj e => by rw [← h.kpR_eq ha j hj]; exact e
    rcases hk' with hk' | hk'
    · unfold Go.Proofs.Ytgpffcgkfgiodaa.keepR at hk'
      obtain ⟨p, hpm, hk'⟩ := List.any_eq_true.1 hk'
      obtain ⟨q, hq, rfl⟩ := mem_byts hpm
      have h3 := (atR_iff (l := l) (p := q.data.toList) (n := l.length)).1.2 (ha q hq)
      have h4 := ((atR_iff (l := l) (p := q.data.toList) (n := l.length)).2 h3).1
      have mk : ∀ j, j < l.length → (atR l q.data.toList l.length ∈ Go.Shr.chain (par l) j ∨ j ∈ Go.Shr.chain (par l) (atR l q.data.toList l.length)) → KW ps (W j) = true := fun j hj e => conv j hj (by
        unfold kpR Go.Proofs.Ytgpffcgkfgiodaa.keepR
        rw [Bool.or_eq_true]
        refine .inl (List.any_eq_true.2 ⟨_, hpm, ?_⟩)
        rw [Bool.or_eq_true, decide_eq_true_eq, decide_eq_true_eq]
        exact e)
      rw [Bool.or_eq_true, decide_eq_true_eq, decide_eq_true_eq] at hk'
      have down : atR l q.data.toList l.length ∈ Go.Shr.chain (par l) i → KW ps (W j0) = true := fun hm => by
        refine mk j0 hj0 (.inl ?_)
        obtain ⟨h5, h6⟩ := getElem?_par hp0
        rw [chain_eq (fun j hj => par_bd l j hj) h5, h6, chainI_nat]
        exact List.mem_cons_of_mem _ hm
      rcases hk' with hk' | hk'
      · exact ⟨j0, hj0, hp0, down hk'⟩
      · by_cases e : i = atR l q.data.toList l.length
        · exact ⟨j0, hj0, hp0, down (by rw [← e]; exact chain_self _ _)⟩
        · obtain ⟨j, hj1, hj2⟩ := chain_child (par l) _ i hk' e
          have hjl : j < l.length := by have := chain_le _ _ j hj1; omega
          refine ⟨j, hjl, ?_, mk j hjl (.inr hj1)⟩
          rw [getD_par hjl] at hj2
          rw [List.getElem?_eq_getElem (by rw [par_length]; exact hjl), hj2]
    · exact ⟨j0, hj0, hp0, conv j0 hj0 (by unfold kpR; rw [hk']; simp)⟩
end Go.Proofs.Ytgpffcgkfgiodaa
namespace Go.Proofs.Ytgpffcgkfgiodaa
open Go.RowKit Go.Shr
mutual
theorem waysS_pre : ∀ (s : Sh) (pre : List UInt8), ∀ x ∈ waysS pre s, pre <+: x
  | .mk nm r k ks, pre, x, h => by
    simp only [waysS, List.mem_cons] at h
    rcases h with h | h
    · rw [h]; exact List.prefix_refl _
    · exact waysL_pre ks pre x h
theorem waysL_pre : ∀ (ks : List Sh) (pre : List UInt8), ∀ x ∈ waysL pre ks, pre <+: x
  | [], _, x, h => by simp [waysL] at h
  | s :: r, pre, x, h => by
    simp only [waysL, List.mem_append] at h
    rcases h with h | h
    · exact (List.prefix_append _ _).trans (waysS_pre s _ x h)
    · exact waysL_pre r pre x h
end
/-- Paths that are ways with points. -/
def PW (ps : List ByteArray) : Prop := ∀ p ∈ ps, ∃ a : List UInt8, a ≠ [] ∧ p.data.toList = inter a
theorem KW_iff {ps : List ByteArray} (h : PW ps) {x : List UInt8} : KW ps x = true ↔ ps = [] ∨ ∃ p ∈ ps, ∃ a : List UInt8, a ≠ [] ∧ p.data.toList = inter a ∧ (a <+: x ∨ x <+: a) := by
  unfold KW kp
  rw [Bool.or_eq_true, List.isEmpty_iff, List.any_eq_true]
  refine or_congr_right ⟨?_, ?_⟩
  · rintro ⟨p, hp, h1⟩
    obtain ⟨q, hq, rfl⟩ := mem_byts hp
    obtain ⟨a, ha, e⟩ := h q hq
    rw [e, kp_inter ha] at h1
    exact ⟨q, hq, a, ha, e, h1⟩
  · rintro ⟨p, hp, a, ha, e, h1⟩
    exact ⟨p.data.toList, List.mem_map.2 ⟨p, hp, rfl⟩, by rw [e, kp_inter ha]; exact h1⟩
theorem KW_pre {ps : List ByteArray} (h : PW ps) {x y : List UInt8} (hy : y <+: x) (hx : KW ps x = true) : KW ps y = true := by
  rw [KW_iff h] at hx ⊢
  refine hx.imp id ?_
  rintro ⟨p, hp, a, ha, e, h1⟩
  refine ⟨p, hp, a, ha, e, ?_⟩
  rcases h1 with h1 | h1
  · exact List.prefix_or_prefix_of_prefix h1 hy
  · exact .inr (hy.trans h1)
theorem KW_sub {ps qs : List ByteArray} (hp : PW ps) (hs : ∀ q ∈ qs, q ∈ ps) (hne : qs ≠ []) (x : List UInt8) : (KW ps x && KW qs x) = KW qs x := by
  cases hq : KW qs x with
  | false => simp
  | true =>
    rw [KW_iff (fun p hp' => hp p (hs p hp'))] at hq
    rw [Bool.and_true, KW_iff hp]
    rcases hq with h | ⟨p, h1, h2⟩
    · exact absurd h hne
    · exact .inr ⟨p, hs p h1, h2⟩
mutual
theorem ways_prW {K : List UInt8 → Bool} (hK : ∀ x y, y <+: x → K x = true → K y = true) : ∀ (s : Sh) (pre : List UInt8), K pre = true → waysS pre (prW K pre s) = (waysS pre s).filter K
  | .mk nm r k ks, pre, h => by
    simp only [prW, waysS, List.filter_cons, h, if_true]
    rw [ways_prWL hK ks pre]
theorem ways_prWL {K : List UInt8 → Bool} (hK : ∀ x y, y <+: x → K x = true → K y = true) : ∀ (ks : List Sh) (pre : List UInt8), waysL pre (prWL K pre ks) = (waysL pre ks).filter K
  | [], _ => by simp [prWL, waysL]
  | s :: r, pre => by
    have hn : (prW K (pre ++ [let1 s.name]) s).name = s.name := by obtain ⟨nm, rp, k, ks⟩ := s; rfl
    simp only [waysL, List.filter_append, ← ways_prWL hK r pre]
    by_cases h : K (pre ++ [let1 s.name]) = true
    · simp only [prWL, h, if_true, waysL, hn, ways_prW hK s _ h]
    · have : (waysS (pre ++ [let1 s.name]) s).filter K = [] := by
        rw [List.filter_eq_nil_iff]
        intro x hx e
        exact h (hK x _ (waysS_pre s _ x hx) e)
      simp only [prWL, h, if_false, this, List.nil_append]
      rfl
end
theorem wayAt_mem {sh : Sh} {i : Nat} (h : i < sh.size) : wayAt sh i ∈ waysS [] sh := by
  unfold wayAt
  rw [List.getD_eq_getElem?_getD, List.getElem?_eq_getElem (by rw [waysS_len]; exact h)]
  exact List.getElem_mem _
theorem mem_wayAt {sh : Sh} {x : List UInt8} (h : x ∈ waysS [] sh) : ∃ i, i < sh.size ∧ wayAt sh i = x := by
  obtain ⟨i, hi, e⟩ := List.getElem_of_mem h
  refine ⟨i, by rw [waysS_len] at hi; exact hi, ?_⟩
  unfold wayAt
  rw [List.getD_eq_getElem?_getD, List.getElem?_eq_getElem hi, ← e]; rfl
/-- A schema, its shape, its ways. -/
structure SW (l : List Fl) (sh : Sh) : Prop where
  sch : Sch l sh
  len : l.length ≤ 20
  nms : Nms l
theorem SW.wy {l : List Fl} {sh : Sh} (h : SW l sh) : Wy l (wayAt sh) := Wy.mk' h.sch h.len h.nms
theorem make_sw (ns : List Int) : SW (makeL ns) (makeSh ns) := ⟨make_sch ns, by have := (make_len ns).2; omega, make_nms ns⟩
theorem SW.pw {l : List Fl} {sh : Sh} (h : SW l sh) {ps : List ByteArray} (ha : allA l ps) : PW ps := fun p hp => by
  obtain ⟨i, h0, hi, e⟩ := isA_iff.1 (ha p hp)
  exact ⟨_, h.wy.ne h0 hi, by rw [← e, h.wy.own h0 hi]⟩
/-- The fields that paths keep. -/
def kL (ps : List ByteArray) (l : List Fl) (sh : Sh) : List Fl := keptL (fun k => KW ps (wayAt sh k)) l
def kS (ps : List ByteArray) (sh : Sh) : Sh := prW (KW ps) [] sh
theorem kS_eq (ps : List ByteArray) (sh : Sh) : prS (fun k => KW ps (wayAt sh k)) 0 sh = kS ps sh := prS_prW (fun _ => rfl) sh 0 [] (ways_all sh)
theorem SW.kept {l : List Fl} {sh : Sh} (h : SW l sh) {ps : List ByteArray} (ha : allA l ps) : SW (kL ps l sh) (kS ps sh) := by
  have hko := h.wy.ko h.sch ha
  refine ⟨kS_eq ps sh ▸ h.sch.kept hko, ?_, keptL_nms h.nms _⟩
  unfold kL
  rw [keptL_len]
  have := rank_le (f := fun k => KW ps (wayAt sh k)) (m := l.length)
  have := h.len
  omega
theorem SW.flat_kept {l : List Fl} {sh : Sh} (h : SW l sh) {ps : List ByteArray} (ha : allA l ps) : kL ps l sh = flat (kS ps sh) := (h.kept ha).sch.flat
theorem SW.ways {l : List Fl} {sh : Sh} (h : SW l sh) {ps : List ByteArray} (ha : allA l ps) : waysS [] (kS ps sh) = (waysS [] sh).filter (KW ps) := by
  refine ways_prW (fun x y => KW_pre (h.pw ha)) sh [] ?_
  have := (h.wy.ko h.sch ha).root
  have hr := h.wy.root
  have e : KW ps (wayAt sh 0) = true := this
  rw [hr] at e; exact e
theorem SW.allA_kept {l : List Fl} {sh : Sh} (h : SW l sh) {ps qs : List ByteArray} (ha : allA l ps) (hq : ∀ q ∈ qs, q ∈ ps) : allA (kL ps l sh) qs := by
  intro q hqm
  obtain ⟨i, h0, hi, e⟩ := isA_iff.1 (ha q (hq q hqm))
  rw [h.wy.own h0 hi] at e
  have hk : KW ps (wayAt sh i) = true := (KW_iff (h.pw ha)).2 (.inr ⟨q, hq q hqm, _, h.wy.ne h0 hi, e.symm, .inl (List.prefix_refl _)⟩)
  have hm : wayAt sh i ∈ waysS [] (kS ps sh) := by
    rw [h.ways ha]
    exact List.mem_filter.2 ⟨wayAt_mem (by rw [← h.sch.len]; exact hi), hk⟩
  obtain ⟨b, hb, eb⟩ := mem_wayAt hm
  have hK := h.kept ha
  have hb' : b < (kL ps l sh).length := by rw [hK.sch.len]; exact hb
  have hb0 : 0 < b := by
    rcases Nat.eq_zero_or_pos b with e0 | e0
    · rw [e0, hK.wy.root] at eb
      exact absurd eb.symm (h.wy.ne h0 hi)
    · exact e0
  exact isA_iff.2 ⟨b, hb0, hb', by rw [hK.wy.own hb0 hb', eb]; exact e⟩
/-- Kept, and less of it kept. -/
theorem SW.less {l : List Fl} {sh : Sh} (h : SW l sh) {ps qs : List ByteArray} (ha : allA l ps) (hq : ∀ q ∈ qs, q ∈ ps) (hne : qs ≠ []) : kS qs (kS ps sh) = kS qs sh ∧ kL qs (kL ps l sh) (kS ps sh) = kL qs l sh := by
  have h1 : kS qs (kS ps sh) = kS qs sh := by
    unfold kS
    rw [prW_prW]
    exact prW_congr sh [] (fun x _ => KW_sub (h.pw ha) hq hne x)
  refine ⟨h1, ?_⟩
  rw [(h.kept ha).flat_kept (h.allA_kept ha hq), h.flat_kept (fun q hq' => ha q (hq q hq')), h1]
/-- The same of trees. -/
theorem SW.less_t {l : List Fl} {sh : Sh} (h : SW l sh) {ps qs : List ByteArray} (ha : allA l ps) (hq : ∀ q ∈ qs, q ∈ ps) (hne : qs ≠ []) (t : Tr) : keptTW (KW qs) [] (kS ps sh) (keptTW (KW ps) [] sh t) = keptTW (KW qs) [] sh t := by
  unfold kS
  rw [keptTW_twice]
  exact keptTW_congr sh [] (fun x _ => KW_sub (h.pw ha) hq hne x) t
theorem kept_tree (ps : List ByteArray) (sh : Sh) : keptT (fun k => KW ps (wayAt sh k)) 0 sh = keptTW (KW ps) [] sh := keptT_W (fun _ => rfl) sh 0 [] (ways_all sh)
theorem KW_nil : KW [] = fun _ => true := by funext x; rfl
theorem kS_nil (sh : Sh) : kS [] sh = sh := by unfold kS; rw [KW_nil]; exact prW_true sh []
theorem allA_nil (l : List Fl) : allA l [] := fun _ h => by cases h
theorem SW.kL_nil {l : List Fl} {sh : Sh} (h : SW l sh) : kL [] l sh = l := by
  rw [h.flat_kept (allA_nil l), kS_nil, ← h.sch.flat]
end Go.Proofs.Ytgpffcgkfgiodaa
