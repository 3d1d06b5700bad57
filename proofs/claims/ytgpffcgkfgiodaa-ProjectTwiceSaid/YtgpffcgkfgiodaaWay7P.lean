/-
  Plain: ways to fields; which fields lie on the way to one.
-/
import Derived.Test.YtgpffcgkfgiodaaPath7P
import Derived.Test.YtgpffcgkfgiodaaSchG
set_option linter.unusedSimpArgs false
namespace Go.Proofs.Ytgpffcgkfgiodaa
open Go.RowKit Go.Shr
/-- A name's letter. -/
def let1 (s : ByteArray) : UInt8 := s.data.toList.headD 0
mutual
/-- The ways to a shape's fields; pre is the way to the shape itself. -/
def waysS (pre : List UInt8) : Sh → List (List UInt8)
  | .mk _ _ _ ks => pre :: waysL pre ks
def waysL (pre : List UInt8) : List Sh → List (List UInt8)
  | [] => []
  | s :: r => waysS (pre ++ [let1 s.name]) s ++ waysL pre r
end
mutual
theorem waysS_len : ∀ (s : Sh) (pre : List UInt8), (waysS pre s).length = s.size
  | .mk _ _ _ ks, pre => by simp only [waysS, List.length_cons, Sh.size, waysL_len ks]; omega
theorem waysL_len : ∀ (ks : List Sh) (pre : List UInt8), (waysL pre ks).length = shSizes ks
  | [], _ => rfl
  | s :: r, pre => by simp only [waysL, List.length_append, shSizes, waysS_len s, waysL_len r]
end
theorem waysL_par : ∀ (ks : List Sh) (g : Int) (i : Nat) (pre : List UInt8) (k : Nat) (x : List UInt8) (p : Int) (f : Fl), (waysL pre ks)[k]? = some x → (parsL g i ks)[k]? = some p → (flatL ks)[k]? = some f →
    (p = g ∧ x = pre ++ [let1 f.name]) ∨ (∃ q : Nat, p = ((i + q : Nat) : Int) ∧ q < k ∧ ∃ y, (waysL pre ks)[q]? = some y ∧ x = y ++ [let1 f.name])
  | [], _, _, _, _, _, _, _, h, _, _ => by simp [waysL] at h
  | .mk nm rp kd qs :: r, g, i, pre, 0, x, p, f, h1, h2, h3 => by
    simp [waysL, waysS, Sh.name] at h1
    simp [parsL, parsS] at h2
    simp [flatL, flat] at h3
    subst h3
    exact .inl ⟨h2.symm, h1.symm⟩
  | .mk nm rp kd qs :: r, g, i, pre, k + 1, x, p, f, h1, h2, h3 => by
    simp only [waysL, waysS, Sh.name, List.cons_append, List.getElem?_cons_succ] at h1
    simp only [parsL, parsS, List.cons_append, List.getElem?_cons_succ] at h2
    simp only [flatL, flat, List.cons_append, List.getElem?_cons_succ] at h3
    by_cases hk : k < shSizes qs
    · rw [List.getElem?_append_left (by rw [waysL_len]; exact hk)] at h1
      rw [List.getElem?_append_left (by rw [parsL_length]; exact hk)] at h2
      rw [List.getElem?_append_left (by rw [flatL_length]; exact hk)] at h3
      rcases waysL_par qs i (i + 1) (pre ++ [let1 nm]) k x p f h1 h2 h3 with ⟨e1, e2⟩ | ⟨q, e1, e2, y, e3, e4⟩
      · exact .inr ⟨0, by simpa using e1, by omega, _, rfl, e2⟩
      · refine .inr ⟨q + 1, by rw [e1]; congr 1; omega, by omega, y, ?_, e4⟩
        simp only [waysL, waysS, Sh.name, List.cons_append, List.getElem?_cons_succ]
        rw [List.getElem?_append_left (by rw [waysL_len]; omega)]
        exact e3
    · rw [List.getElem?_append_right (by rw [waysL_len]; omega), waysL_len] at h1
      rw [List.getElem?_append_right (by rw [parsL_length]; omega), parsL_length] at h2
      rw [List.getElem?_append_right (by rw [flatL_length]; omega), flatL_length] at h3
      rcases waysL_par r g (i + (Sh.mk nm rp kd qs).size) pre (k - shSizes qs) x p f h1 h2 h3 with e | ⟨q, e1, e2, y, e3, e4⟩
      · exact .inl e
      · refine .inr ⟨shSizes qs + 1 + q, by rw [e1]; simp only [Sh.size]; congr 1; omega, by omega, y, ?_, e4⟩
        rw [show shSizes qs + 1 + q = (shSizes qs + q) + 1 by omega]
        simp only [waysL, waysS, Sh.name, List.cons_append, List.getElem?_cons_succ]
        rw [List.getElem?_append_right (by rw [waysL_len]; omega), waysL_len, show shSizes qs + q - shSizes qs = q by omega]
        exact e3
termination_by ks => shSizes ks
decreasing_by
  · simp only [shSizes, Sh.size]; omega
  · simp only [shSizes, Sh.size]; omega
/-- What is said of a schema's fields and of the ways to them. -/
structure Wy (l : List Fl) (W : Nat → List UInt8) : Prop where
  pos : 0 < l.length
  len : l.length ≤ 20
  name : ∀ (i : Nat) (h : i < l.length), ∃ c : UInt8, l[i].name.data.toList = [c] ∧ c.toNat < 128 ∧ c ≠ 46
  root : W 0 = []
  step : ∀ (i : Nat) (h : i < l.length), 0 < i → ∃ k : Nat, (par l)[i]? = some (k : Int) ∧ k < i ∧ W i = W k ++ [let1 l[i].name]
  inj : ∀ i j, i < l.length → j < l.length → W i = W j → i = j
def wayAt (sh : Sh) (i : Nat) : List UInt8 := (waysS [] sh).getD i []
theorem Wy.of {l : List Fl} {sh : Sh} (h : Sch l sh) (hs : l.length ≤ 20) (hn : ∀ f ∈ l, ∃ c : UInt8, f.name.data.toList = [c] ∧ c.toNat < 128 ∧ c ≠ 46) (hd : (waysS [] sh).Nodup) : Wy l (wayAt sh) := by
  have hl := h.len
  have hwl := waysS_len sh []
  refine ⟨by rw [hl]; exact shsize_pos' sh, hs, fun i hi => hn _ (List.getElem_mem hi), ?_, fun i hi h0 => ?_, fun i j hi hj e => ?_⟩
  · obtain ⟨nm, rp, kd, ks⟩ := sh; rfl
  · obtain ⟨k, rfl⟩ : ∃ k, i = k + 1 := ⟨i - 1, by omega⟩
    have hp := par_root sh h.good h.kind
    rw [← h.flat] at hp
    rw [hp]
    have hf : l[k + 1]? = some l[k + 1] := List.getElem?_eq_getElem hi
    obtain ⟨f, hff⟩ : ∃ f, f = l[k + 1] := ⟨_, rfl⟩
    rw [← hff] at hf
    rw [← hff, ]
    rw [h.flat] at hf
    obtain ⟨nm, rp, kd, ks⟩ := sh
    have hk : k < shSizes ks := by rw [hl] at hi; simp only [Sh.size] at hi; omega
    simp only [flat, List.getElem?_cons_succ] at hf
    have e2 : (parsL ((0 : Nat) : Int) 1 ks)[k]? = some ((parsL ((0 : Nat) : Int) 1 ks)[k]'(by rw [parsL_length]; exact hk)) := List.getElem?_eq_getElem _
    have e1 : (waysL [] ks)[k]? = some ((waysL [] ks)[k]'(by rw [waysL_len]; exact hk)) := List.getElem?_eq_getElem _
    have hw : wayAt (.mk nm rp kd ks) (k + 1) = (waysL [] ks)[k]'(by rw [waysL_len]; exact hk) := by
      simp [wayAt, waysS, List.getD, e1]
    rw [hw]
    simp only [parsS, List.getElem?_cons_succ, Nat.zero_add]
    rcases waysL_par ks _ 1 [] k _ _ f e1 e2 hf with ⟨a1, a2⟩ | ⟨q, a1, a2, y, a3, a4⟩
    · exact ⟨0, by rw [e2, a1], by omega, by rw [a2]; rfl⟩
    · refine ⟨1 + q, by rw [e2, a1], by omega, ?_⟩
      rw [a4]
      simp [wayAt, waysS, List.getD, Nat.add_comm 1 q, a3]
  · have a1 : (waysS [] sh)[i]? = some (wayAt sh i) := by
      unfold wayAt; rw [List.getD_eq_getElem?_getD, List.getElem?_eq_getElem (by omega)]; rfl
    have a2 : (waysS [] sh)[j]? = some (wayAt sh j) := by
      unfold wayAt; rw [List.getD_eq_getElem?_getD, List.getElem?_eq_getElem (by omega)]; rfl
    rw [e, ← a2] at a1
    exact (List.getElem?_inj (by omega) hd).1 a1
theorem getElem?_par {l : List Fl} {i : Nat} {k : Int} (h : (par l)[i]? = some k) : ∃ hi : i < (par l).length, (par l)[i] = k := List.getElem?_eq_some_iff.1 h
theorem Wy.chain {l : List Fl} {W : Nat → List UInt8} (h : Wy l W) : ∀ (i : Nat), i < l.length → ∀ j, j < l.length → (j ∈ chain (par l) i ↔ W j <+: W i) := by
  intro i
  induction i using Nat.strongRecOn with
  | _ i ih =>
    intro hi j hj
    by_cases h0 : i = 0
    · subst h0
      rw [chain_zero, h.root, List.prefix_nil]
      constructor
      · intro e
        obtain rfl : j = 0 := by simpa using e
        exact h.root
      · intro e
        rw [← h.root] at e
        simp [h.inj j 0 hj hi e]
    · obtain ⟨k, hk, hki, hw⟩ := h.step i hi (by omega)
      obtain ⟨hpl, hpe⟩ := getElem?_par hk
      rw [chain_eq (fun j hj => par_bd l j hj) hpl, hpe, chainI_nat, hw, List.mem_cons, ih k hki (by omega) j hj, List.prefix_concat_iff]
      constructor
      · rintro (e | e)
        · subst e; exact .inl hw
        · exact .inr e
      · rintro (e | e)
        · exact .inl (h.inj j i hj hi (e.trans hw.symm))
        · exact .inr e
theorem Wy.upI {l : List Fl} {W : Nat → List UInt8} (h : Wy l W) : ∀ (i : Nat), i < l.length → W i = ((upI (par l) (i : Int)).map (fun k => let1 (l.getD k Fl.none).name)).reverse := by
  intro i
  induction i using Nat.strongRecOn with
  | _ i ih =>
    intro hi
    by_cases h0 : i = 0
    · subst h0
      rw [h.root, upI_le _ (by omega)]; rfl
    · obtain ⟨k, hk, hki, hw⟩ := h.step i hi (by omega)
      obtain ⟨hpl, hpe⟩ := getElem?_par hk
      rw [upI_nat _ (by omega), up_eq (fun j hj => par_bd l j hj) hpl (by omega), hpe, hw, ih k hki (by omega)]
      simp [hi]
/-- A field's path. -/
def ownS (l : List Fl) (i : Nat) : ByteArray := joinS (fun k => (l.getD k Fl.none).name) (upI (par l) ((par l).getD i (-1))) (l.getD i Fl.none).name
theorem Wy.own {l : List Fl} {W : Nat → List UInt8} (h : Wy l W) {i : Nat} (h0 : 0 < i) (hi : i < l.length) : (ownS l i).data.toList = inter (W i) := by
  obtain ⟨k, hk, hki, hw⟩ := h.step i hi h0
  have e : (par l).getD i (-1) = (k : Int) := by rw [List.getD_eq_getElem?_getD, hk]; rfl
  have hb : ∀ x, x < l.length → (l.getD x Fl.none).name.data.toList = [let1 (l.getD x Fl.none).name] := by
    intro x hx
    obtain ⟨c, h1, _, _⟩ := h.name x hx
    have : l.getD x Fl.none = l[x] := by simp [List.getD, hx]
    rw [this, h1, let1, h1]; rfl
  unfold ownS
  rw [e, joinS_inter (b := fun k => let1 (l.getD k Fl.none).name) _ _ [let1 (l.getD i Fl.none).name] (fun x hx => hb x ?_) (by simp) (by rw [hb i hi]; rfl), hw, h.upI k (by omega)]
  · simp [hi]
  · unfold Go.Shr.upI at hx
    split at hx
    · cases hx
    · have := chain_le _ _ _ (up_mem.1 hx).1
      simp at this; omega
theorem Wy.ne {l : List Fl} {W : Nat → List UInt8} (h : Wy l W) {i : Nat} (h0 : 0 < i) (hi : i < l.length) : W i ≠ [] := by
  obtain ⟨k, _, _, hw⟩ := h.step i hi h0
  rw [hw]; simp
theorem Wy.own_inj {l : List Fl} {W : Nat → List UInt8} (h : Wy l W) {i j : Nat} (h0 : 0 < i) (hi : i < l.length) (h1 : 0 < j) (hj : j < l.length) (e : (ownS l i).data.toList = (ownS l j).data.toList) : i = j := by
  rw [h.own h0 hi, h.own h1 hj] at e
  exact h.inj i j hi hj (inter_inj _ _ e)
/-! What paths keep. -/
/-- Is a path one of the fields' (those ahead of n)? -/
def isA (l : List Fl) (p : List UInt8) (n : Nat) : Bool := (List.range n).any fun i => decide (0 < i) && ((ownS l i).data.toList == p)
/-- Is a field kept by a path, by the fields ahead of n? -/
def inA (l : List Fl) (p : List UInt8) (n : Nat) (k : Nat) : Bool := (List.range n).any fun i => decide (0 < i) && insideB (ownS l i).data.toList p && decide (k ∈ Go.Shr.chain (par l) i)
def keepP (l : List Fl) (ps : List (List UInt8)) (k : Nat) : Bool := ps.any fun p => inA l p l.length k
/-- The field of a path (the last one ahead of n); 0: none. -/
def atR (l : List Fl) (p : List UInt8) : Nat → Nat
  | 0 => 0
  | n + 1 => if 0 < n ∧ (ownS l n).data.toList = p then n else atR l p n
def keepR (l : List Fl) (ps : List (List UInt8)) (k : Nat) : Bool := ps.any fun p => decide (atR l p l.length ∈ Go.Shr.chain (par l) k) || decide (k ∈ Go.Shr.chain (par l) (atR l p l.length))
/-- What paths keep, by the ways. -/
def kp (ps : List (List UInt8)) (x : List UInt8) : Bool := ps.any fun p => x.isEmpty || insideB (inter x) p || insideB p (inter x)
theorem kp_inter {x a : List UInt8} (ha : a ≠ []) : (x.isEmpty || insideB (inter x) (inter a) || insideB (inter a) (inter x)) = true ↔ (a <+: x ∨ x <+: a) := by
  by_cases hx : x = []
  · subst hx; simp
  · have h1 : x.isEmpty = false := by simpa using hx
    rw [h1, Bool.false_or, Bool.or_eq_true, inside_inter hx ha, inside_inter ha hx]
theorem isA_succ (l : List Fl) (p : List UInt8) (n : Nat) (h : 0 < n) : isA l p (n + 1) = (isA l p n || ((ownS l n).data.toList == p)) := by
  unfold isA; rw [List.range_succ, List.any_append]; simp [h]
theorem inA_succ (l : List Fl) (p : List UInt8) (n k : Nat) (h : 0 < n) : inA l p (n + 1) k = (inA l p n k || (insideB (ownS l n).data.toList p && decide (k ∈ Go.Shr.chain (par l) n))) := by
  unfold inA; rw [List.range_succ, List.any_append]; simp [h]
theorem isA_one (l : List Fl) (p : List UInt8) : isA l p 1 = false := by simp [isA]
theorem inA_one (l : List Fl) (p : List UInt8) (k : Nat) : inA l p 1 k = false := by simp [inA]
theorem isA_iff {l : List Fl} {p : List UInt8} {n : Nat} : isA l p n = true ↔ ∃ i, 0 < i ∧ i < n ∧ (ownS l i).data.toList = p := by
  simp only [isA, List.any_eq_true, List.mem_range, Bool.and_eq_true, decide_eq_true_eq, beq_iff_eq]
  constructor
  · rintro ⟨i, h1, h2, h3⟩; exact ⟨i, h2, h1, h3⟩
  · rintro ⟨i, h1, h2, h3⟩; exact ⟨i, h2, h1, h3⟩
theorem atR_iff {l : List Fl} {p : List UInt8} : ∀ {n : Nat}, (0 < atR l p n ↔ isA l p n = true) ∧ (0 < atR l p n → atR l p n < n ∧ (ownS l (atR l p n)).data.toList = p)
  | 0 => by simp [atR, isA]
  | n + 1 => by
    have ih := atR_iff (l := l) (p := p) (n := n)
    rw [isA_iff] at ih ⊢
    unfold atR
    split
    · rename_i h
      exact ⟨⟨fun h0 => ⟨n, h0, by omega, h.2⟩, fun _ => h.1⟩, fun _ => ⟨by omega, h.2⟩⟩
    · rename_i h
      refine ⟨⟨fun h0 => ?_, fun ⟨i, h1, h2, h3⟩ => ih.1.2 ⟨i, h1, ?_, h3⟩⟩, fun h0 => ⟨by have := (ih.2 h0).1; omega, (ih.2 h0).2⟩⟩
      · obtain ⟨i, h1, h2, h3⟩ := ih.1.1 h0
        exact ⟨i, h1, by omega, h3⟩
      · by_cases e : i = n
        · subst e; exact absurd ⟨h1, h3⟩ h
        · omega
theorem Wy.keepP {l : List Fl} {W : Nat → List UInt8} (h : Wy l W) {ps : List (List UInt8)} (hp : ∀ p ∈ ps, isA l p l.length = true) {k : Nat} (hk : k < l.length) : keepP l ps k = kp ps (W k) := by
  unfold Go.Proofs.Ytgpffcgkfgiodaa.keepP kp
  rw [Bool.eq_iff_iff, List.any_eq_true, List.any_eq_true]
  refine exists_congr fun p => and_congr_right fun hm => ?_
  obtain ⟨a, ha, hal, rfl⟩ := isA_iff.1 (hp p hm)
  rw [h.own ha hal, kp_inter (h.ne ha hal)]
  simp only [inA, List.any_eq_true, List.mem_range, Bool.and_eq_true, decide_eq_true_eq]
  constructor
  · rintro ⟨i, hi, ⟨h0, h1⟩, h2⟩
    rw [h.own h0 hi, inside_inter (h.ne h0 hi) (h.ne ha hal)] at h1
    rw [h.chain i hi k hk] at h2
    exact List.prefix_or_prefix_of_prefix h1 h2
  · rintro (e | e)
    · have hk0 : 0 < k := by
        rcases Nat.eq_zero_or_pos k with rfl | h0
        · rw [h.root, List.prefix_nil] at e
          exact absurd e (h.ne ha hal)
        · exact h0
      exact ⟨k, hk, ⟨hk0, by rw [h.own hk0 hk, inside_inter (h.ne hk0 hk) (h.ne ha hal)]; exact e⟩, chain_self _ _⟩
    · exact ⟨a, hal, ⟨ha, by rw [h.own ha hal, inside_inter (h.ne ha hal) (h.ne ha hal)]; exact List.prefix_refl _⟩, by rw [h.chain a hal k hk]; exact e⟩
theorem Wy.keepR {l : List Fl} {W : Nat → List UInt8} (h : Wy l W) {ps : List (List UInt8)} (hp : ∀ p ∈ ps, isA l p l.length = true) {k : Nat} (hk : k < l.length) : keepR l ps k = kp ps (W k) := by
  unfold Go.Proofs.Ytgpffcgkfgiodaa.keepR kp
  rw [Bool.eq_iff_iff, List.any_eq_true, List.any_eq_true]
  refine exists_congr fun p => and_congr_right fun hm => ?_
  have h0 := (atR_iff (l := l) (p := p) (n := l.length)).1.2 (hp p hm)
  obtain ⟨h1, h2⟩ := (atR_iff (l := l) (p := p) (n := l.length)).2 h0
  generalize atR l p l.length = a at *
  obtain rfl : p = inter (W a) := by rw [← h2, h.own h0 h1]
  rw [kp_inter (h.ne h0 h1), Bool.or_eq_true, decide_eq_true_eq, decide_eq_true_eq, h.chain k hk _ h1, h.chain _ h1 k hk]
end Go.Proofs.Ytgpffcgkfgiodaa
