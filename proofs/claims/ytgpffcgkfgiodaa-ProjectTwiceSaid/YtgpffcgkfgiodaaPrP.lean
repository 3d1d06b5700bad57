/-
  Plain: what is kept of a shape, of a tree.
-/
import Derived.Test.YtgpffcgkfgiodaaOne7P
import Derived.Test.YtgpffcgkfgiodaaOkP
set_option linter.unusedSimpArgs false
namespace Go.Proofs.Ytgpffcgkfgiodaa
open Go.RowKit Go.Shr
mutual
/-- What is kept of a shape at a place. -/
def prS (f : Nat → Bool) (i : Nat) : Sh → Sh
  | .mk nm r k ks => .mk nm r k (prL f (i + 1) ks)
def prL (f : Nat → Bool) (i : Nat) : List Sh → List Sh
  | [] => []
  | s :: r => if f i = true then prS f i s :: prL f (i + s.size) r else prL f (i + s.size) r
end
mutual
/-- What is kept of a tree of a shape at a place. -/
def keptT (f : Nat → Bool) (i : Nat) : Sh → Tr → Tr
  | .mk _ _ _ ks, t => .mk t.n t.s (keptK f (i + 1) ks t.kids)
def keptK (f : Nat → Bool) (i : Nat) : List Sh → List (List Tr) → List (List Tr)
  | [], _ => []
  | _ :: _, [] => []
  | s :: r, x :: xs => if f i = true then x.map (keptT f i s) :: keptK f (i + s.size) r xs else keptK f (i + s.size) r xs
end
mutual
/-- The same by ways. -/
def prW (K : List UInt8 → Bool) (pre : List UInt8) : Sh → Sh
  | .mk nm r k ks => .mk nm r k (prWL K pre ks)
def prWL (K : List UInt8 → Bool) (pre : List UInt8) : List Sh → List Sh
  | [] => []
  | s :: r => if K (pre ++ [let1 s.name]) = true then prW K (pre ++ [let1 s.name]) s :: prWL K pre r else prWL K pre r
end
mutual
def keptTW (K : List UInt8 → Bool) (pre : List UInt8) : Sh → Tr → Tr
  | .mk _ _ _ ks, t => .mk t.n t.s (keptKW K pre ks t.kids)
def keptKW (K : List UInt8 → Bool) (pre : List UInt8) : List Sh → List (List Tr) → List (List Tr)
  | [], _ => []
  | _ :: _, [] => []
  | s :: r, x :: xs => if K (pre ++ [let1 s.name]) = true then x.map (keptTW K (pre ++ [let1 s.name]) s) :: keptKW K pre r xs else keptKW K pre r xs
end
/-! From places to ways. -/
theorem ways_split {W : Nat → List UInt8} {pre : List UInt8} {s : Sh} {r : List Sh} {o : Nat} (h : waysL pre (s :: r) = (List.range' o (shSizes (s :: r))).map W) :
    waysS (pre ++ [let1 s.name]) s = (List.range' o s.size).map W ∧ waysL pre r = (List.range' (o + s.size) (shSizes r)).map W := by
  simp only [waysL, shSizes] at h
  rw [← List.range'_append_1, List.map_append] at h
  exact List.append_inj h (by rw [waysS_len]; simp)
theorem ways_head {W : Nat → List UInt8} {pre : List UInt8} {s : Sh} {o : Nat} (h : waysS pre s = (List.range' o s.size).map W) : W o = pre := by
  obtain ⟨nm, r, k, ks⟩ := s
  simp only [waysS, Sh.size, Nat.add_comm 1 (shSizes ks), List.range'_succ, List.map_cons] at h
  injection h with h1 h2
  exact h1.symm
theorem ways_tail {W : Nat → List UInt8} {pre : List UInt8} {nm : ByteArray} {r k : Int} {ks : List Sh} {o : Nat} (h : waysS pre (.mk nm r k ks) = (List.range' o (Sh.mk nm r k ks).size).map W) : waysL pre ks = (List.range' (o + 1) (shSizes ks)).map W := by
  simp only [waysS, Sh.size, Nat.add_comm 1 (shSizes ks), List.range'_succ, List.map_cons] at h
  injection h with h1 h2
mutual
theorem prS_prW {f : Nat → Bool} {K : List UInt8 → Bool} {W : Nat → List UInt8} (hf : ∀ a, f a = K (W a)) : ∀ (s : Sh) (i : Nat) (pre : List UInt8), waysS pre s = (List.range' i s.size).map W → prS f i s = prW K pre s
  | .mk nm r k ks, i, pre, h => by
    simp only [prS, prW]
    rw [prL_prW hf ks (i + 1) pre (ways_tail h)]
theorem prL_prW {f : Nat → Bool} {K : List UInt8 → Bool} {W : Nat → List UInt8} (hf : ∀ a, f a = K (W a)) : ∀ (ks : List Sh) (i : Nat) (pre : List UInt8), waysL pre ks = (List.range' i (shSizes ks)).map W → prL f i ks = prWL K pre ks
  | [], i, pre, h => by simp [prL, prWL]
  | s :: r, i, pre, h => by
    obtain ⟨h1, h2⟩ := ways_split h
    simp only [prL, prWL]
    rw [prL_prW hf r (i + s.size) pre h2, prS_prW hf s i _ h1, hf i, ways_head h1]
end
mutual
theorem keptT_W {f : Nat → Bool} {K : List UInt8 → Bool} {W : Nat → List UInt8} (hf : ∀ a, f a = K (W a)) : ∀ (s : Sh) (i : Nat) (pre : List UInt8), waysS pre s = (List.range' i s.size).map W → keptT f i s = keptTW K pre s
  | .mk nm r k ks, i, pre, h => by
    funext t
    simp only [keptT, keptTW]
    rw [keptK_W hf ks (i + 1) pre (ways_tail h)]
theorem keptK_W {f : Nat → Bool} {K : List UInt8 → Bool} {W : Nat → List UInt8} (hf : ∀ a, f a = K (W a)) : ∀ (ks : List Sh) (i : Nat) (pre : List UInt8), waysL pre ks = (List.range' i (shSizes ks)).map W → ∀ xs, keptK f i ks xs = keptKW K pre ks xs
  | [], i, pre, h, xs => by simp [keptK, keptKW]
  | s :: r, i, pre, h, [] => by simp [keptK, keptKW]
  | s :: r, i, pre, h, x :: xs => by
    obtain ⟨h1, h2⟩ := ways_split h
    simp only [keptK, keptKW]
    rw [keptK_W hf r (i + s.size) pre h2, keptT_W hf s i _ h1, hf i, ways_head h1]
end
theorem ways_all (sh : Sh) : waysS [] sh = (List.range' 0 sh.size).map (wayAt sh) := by
  refine List.ext_getElem (by simp [waysS_len]) fun a h1 h2 => ?_
  simp [wayAt, h1]
/-! Keeping twice. -/
mutual
theorem prW_prW (K L : List UInt8 → Bool) : ∀ (s : Sh) (pre : List UInt8), prW L pre (prW K pre s) = prW (fun x => K x && L x) pre s
  | .mk nm r k ks, pre => by simp only [prW, prWL_prW K L ks pre]
theorem prWL_prW (K L : List UInt8 → Bool) : ∀ (ks : List Sh) (pre : List UInt8), prWL L pre (prWL K pre ks) = prWL (fun x => K x && L x) pre ks
  | [], _ => by simp [prWL]
  | s :: r, pre => by
    have hn : (prW K (pre ++ [let1 s.name]) s).name = s.name := by obtain ⟨nm, rp, k, ks⟩ := s; rfl
    by_cases h : K (pre ++ [let1 s.name]) = true
    · by_cases h2 : L (pre ++ [let1 s.name]) = true
      · simp only [prWL, h, h2, if_true, hn, prW_prW K L s, prWL_prW K L r, Bool.and_self]
      · simp only [prWL, h, h2, if_true, hn, prWL_prW K L r, Bool.true_and]
        simp
    · have h' : K (pre ++ [let1 s.name]) = false := by simpa using h
      simp only [prWL, h', prWL_prW K L r, Bool.false_and]
      simp [prWL_prW K L r]
end
mutual
theorem keptTW_twice (K L : List UInt8 → Bool) : ∀ (s : Sh) (pre : List UInt8) (t : Tr), keptTW L pre (prW K pre s) (keptTW K pre s t) = keptTW (fun x => K x && L x) pre s t
  | .mk nm r k ks, pre, .mk n s kids => by simp only [prW, keptTW, Tr.n, Tr.s, Tr.kids, keptKW_twice K L ks pre kids]
theorem keptKW_twice (K L : List UInt8 → Bool) : ∀ (ks : List Sh) (pre : List UInt8) (xs : List (List Tr)), keptKW L pre (prWL K pre ks) (keptKW K pre ks xs) = keptKW (fun x => K x && L x) pre ks xs
  | [], _, _ => by simp [keptKW, prWL]
  | s :: r, pre, [] => by
    simp only [keptKW]
    cases prWL K pre (s :: r) <;> simp [keptKW]
  | s :: r, pre, x :: xs => by
    have hn : (prW K (pre ++ [let1 s.name]) s).name = s.name := by obtain ⟨nm, rp, k, ks⟩ := s; rfl
    by_cases h : K (pre ++ [let1 s.name]) = true
    · by_cases h2 : L (pre ++ [let1 s.name]) = true
      · simp only [prWL, keptKW, h, h2, if_true, hn, keptKW_twice K L r, Bool.and_self, List.map_map]
        congr 1
        refine List.map_congr_left fun t _ => ?_
        exact keptTW_twice K L s _ t
      · simp only [prWL, keptKW, h, h2, if_true, hn, keptKW_twice K L r, Bool.true_and]
        simp
    · have h' : K (pre ++ [let1 s.name]) = false := by simpa using h
      simp only [prWL, keptKW, h', Bool.false_and]
      simp [keptKW_twice K L r]
end
mutual
theorem prW_congr {K L : List UInt8 → Bool} : ∀ (s : Sh) (pre : List UInt8), (∀ x ∈ waysS pre s, K x = L x) → prW K pre s = prW L pre s
  | .mk nm r k ks, pre, h => by
    simp only [prW, prWL_congr ks pre (fun x hx => h x (by simp only [waysS]; exact List.mem_cons_of_mem _ hx))]
theorem prWL_congr {K L : List UInt8 → Bool} : ∀ (ks : List Sh) (pre : List UInt8), (∀ x ∈ waysL pre ks, K x = L x) → prWL K pre ks = prWL L pre ks
  | [], _, _ => by simp [prWL]
  | s :: r, pre, h => by
    have h1 := prW_congr s (pre ++ [let1 s.name]) (fun x hx => h x (by simp only [waysL]; exact List.mem_append_left _ hx))
    have h2 := prWL_congr r pre (fun x hx => h x (by simp only [waysL]; exact List.mem_append_right _ hx))
    have h3 : K (pre ++ [let1 s.name]) = L (pre ++ [let1 s.name]) := h _ (by
      simp only [waysL]
      refine List.mem_append_left _ ?_
      obtain ⟨nm, rp, k, ks⟩ := s
      simp only [waysS]; exact List.mem_cons_self)
    simp only [prWL, h1, h2, h3]
end
mutual
theorem keptTW_congr {K L : List UInt8 → Bool} : ∀ (s : Sh) (pre : List UInt8), (∀ x ∈ waysS pre s, K x = L x) → ∀ t, keptTW K pre s t = keptTW L pre s t
  | .mk nm r k ks, pre, h, t => by
    simp only [keptTW, keptKW_congr ks pre (fun x hx => h x (by simp only [waysS]; exact List.mem_cons_of_mem _ hx))]
theorem keptKW_congr {K L : List UInt8 → Bool} : ∀ (ks : List Sh) (pre : List UInt8), (∀ x ∈ waysL pre ks, K x = L x) → ∀ xs, keptKW K pre ks xs = keptKW L pre ks xs
  | [], _, _, _ => by simp [keptKW]
  | s :: r, pre, h, [] => by simp [keptKW]
  | s :: r, pre, h, x :: xs => by
    have h1 := fun t => keptTW_congr s (pre ++ [let1 s.name]) (fun x hx => h x (by simp only [waysL]; exact List.mem_append_left _ hx)) t
    have h2 := keptKW_congr r pre (fun x hx => h x (by simp only [waysL]; exact List.mem_append_right _ hx)) xs
    have h3 : K (pre ++ [let1 s.name]) = L (pre ++ [let1 s.name]) := h _ (by
      simp only [waysL]
      refine List.mem_append_left _ ?_
      obtain ⟨nm, rp, k, ks⟩ := s
      simp only [waysS]; exact List.mem_cons_self)
    simp only [keptKW, h2, h3]
    rw [List.map_congr_left (fun t _ => h1 t)]
end
mutual
theorem prW_true : ∀ (s : Sh) (pre : List UInt8), prW (fun _ => true) pre s = s
  | .mk nm r k ks, pre => by simp only [prW, prWL_true ks pre]
theorem prWL_true : ∀ (ks : List Sh) (pre : List UInt8), prWL (fun _ => true) pre ks = ks
  | [], _ => by simp [prWL]
  | s :: r, pre => by simp only [prWL, if_true, prW_true s, prWL_true r]
end
theorem okK_nil {ks : List Sh} {kd : Int} {t : Tr} {nm : ByteArray} {rp : Int} (hg : GoodS (.mk nm rp kd ks)) (h : okT (.mk nm rp kd ks) t) : okK ks t.kids := by
  simp only [GoodS] at hg
  rw [okT] at h
  by_cases hk : kd = 0
  · subst hk
    rw [if_neg (by decide), if_neg (by decide), if_neg (by decide), if_neg (by decide)] at h
    exact h.2.2
  · have hks := hg.2.2.2.2.1 hk
    subst hks
    rw [okK]
    by_cases k1 : kd = 1
    · rw [if_pos k1] at h; exact h.2.2
    · rw [if_neg k1] at h
      by_cases k2 : kd = 2
      · rw [if_pos k2] at h; exact h.2.2
      · rw [if_neg k2] at h
        by_cases k3 : kd = 3
        · rw [if_pos k3] at h; exact h.2.2
        · rw [if_neg k3, if_pos (by omega)] at h; exact h.2.2
mutual
theorem keptTW_true : ∀ (s : Sh) (pre : List UInt8) (t : Tr), GoodS s → okT s t → keptTW (fun _ => true) pre s t = t
  | .mk nm r k ks, pre, .mk n s kids, hg, h => by
    have h1 := okK_nil hg h
    simp only [GoodS] at hg
    simp only [keptTW, Tr.n, Tr.s, Tr.kids] at h1 ⊢
    rw [keptKW_true ks pre kids hg.2.2.2.2.2.2 h1]
theorem keptKW_true : ∀ (ks : List Sh) (pre : List UInt8) (xs : List (List Tr)), GoodL ks → okK ks xs → keptKW (fun _ => true) pre ks xs = xs
  | [], _, xs, _, h => by rw [okK] at h; subst h; simp [keptKW]
  | s :: r, _, [], _, h => by rw [okK] at h; exact h.elim
  | s :: r, pre, x :: xs, hg, h => by
    rw [okK] at h
    simp only [GoodL] at hg
    simp only [keptKW, if_true, keptKW_true r pre xs hg.2 h.2.2]
    congr 1
    refine (List.map_congr_left (g := id) fun t ht => ?_).trans (List.map_id x)
    exact keptTW_true s _ t hg.1 (h.2.1 t ht)
end
mutual
theorem okT_pr {K : List UInt8 → Bool} : ∀ (s : Sh) (pre : List UInt8) (t : Tr), GoodS s → okT s t → okT (prW K pre s) (keptTW K pre s t)
  | .mk nm r k ks, pre, .mk n s kids, hg, h => by
    have h1 := okK_nil hg h
    have h2 := okK_pr (K := K) ks pre kids (by simp only [GoodS] at hg; exact hg.2.2.2.2.2.2) h1
    simp only [prW, keptTW, Tr.n, Tr.s, Tr.kids]
    rw [okT] at h ⊢
    by_cases hk : k = 0
    · subst hk
      rw [if_neg (by decide), if_neg (by decide), if_neg (by decide), if_neg (by decide)] at h ⊢
      exact ⟨h.1, h.2.1, h2⟩
    · simp only [GoodS] at hg
      have hks := hg.2.2.2.2.1 hk
      subst hks
      simp only [keptKW]
      rw [okK] at h1
      by_cases k1 : k = 1
      · rw [if_pos k1] at h ⊢; exact ⟨h.1, h.2.1, rfl⟩
      · rw [if_neg k1] at h ⊢
        by_cases k2 : k = 2
        · rw [if_pos k2] at h ⊢; exact ⟨h.1, h.2.1, rfl⟩
        · rw [if_neg k2] at h ⊢
          by_cases k3 : k = 3
          · rw [if_pos k3] at h ⊢; exact ⟨h.1, h.2.1, rfl⟩
          · rw [if_neg k3, if_pos (by omega)] at h ⊢; exact ⟨h.1, h.2.1, rfl⟩
theorem okK_pr {K : List UInt8 → Bool} : ∀ (ks : List Sh) (pre : List UInt8) (xs : List (List Tr)), GoodL ks → okK ks xs → okK (prWL K pre ks) (keptKW K pre ks xs)
  | [], _, xs, _, h => by simp [prWL, keptKW, okK]
  | s :: r, _, [], _, h => by rw [okK] at h; exact h.elim
  | s :: r, pre, x :: xs, hg, h => by
    rw [okK] at h
    simp only [GoodL] at hg
    have h2 := okK_pr (K := K) r pre xs hg.2 h.2.2
    by_cases hK : K (pre ++ [let1 s.name]) = true
    · simp only [prWL, keptKW, hK, if_true]
      rw [okK]
      refine ⟨?_, fun t ht => ?_, h2⟩
      · have : (prW K (pre ++ [let1 s.name]) s).rep = s.rep := by obtain ⟨nm, rp, k, ks⟩ := s; rfl
        rw [this, List.length_map]; exact h.1
      · obtain ⟨u, hu, rfl⟩ := List.mem_map.1 ht
        exact okT_pr s _ u hg.1 (h.2.1 u hu)
    · simp only [prWL, keptKW, hK, if_false]
      exact h2
end
end Go.Proofs.Ytgpffcgkfgiodaa
