/-
  Plain: what one leaf's path keeps.
-/
import Derived.Test.YtgpffcgkfgiodaaGroups7
import Derived.Test.YtgpffcgkfgiodaaLeaves5
set_option linter.unusedSimpArgs false
namespace Go.Proofs.Ytgpffcgkfgiodaa
open Go.RowKit Go.Shr
mutual
theorem ix_sub {l : List Fl} {K : Int → List Int} : ∀ (s : Sh) (i : Nat), Ix l K i s → GoodS s → ∀ (j : Nat), i ≤ j → j < i + s.size → ∃ s', Ix l K j s' ∧ GoodS s'
  | .mk nm r k ks, i, h, hg, j, h1, h2 => by
    by_cases hj : j = i
    · subst hj; exact ⟨_, h, hg⟩
    · simp only [Ix] at h
      simp only [GoodS] at hg
      simp only [Sh.size] at h2
      exact ixL_sub ks (i + 1) h.2.2 hg.2.2.2.2.2.2 j (by omega) (by omega)
theorem ixL_sub {l : List Fl} {K : Int → List Int} : ∀ (ks : List Sh) (i : Nat), IxL l K i ks → GoodL ks → ∀ (j : Nat), i ≤ j → j < i + shSizes ks → ∃ s', Ix l K j s' ∧ GoodS s'
  | [], i, _, _, j, h1, h2 => by simp only [shSizes] at h2; omega
  | s :: r, i, h, hg, j, h1, h2 => by
    simp only [IxL] at h
    simp only [GoodL] at hg
    simp only [shSizes] at h2
    by_cases hj : j < i + s.size
    · exact ix_sub s i h.1 hg.1 j h1 hj
    · exact ixL_sub r (i + s.size) h.2 hg.2 j (by omega) (by omega)
end
/-- A field's group is a group. -/
theorem Sch.par_kind {l : List Fl} {sh : Sh} (h : Sch l sh) {j k : Nat} (hj : j < l.length) (hp : (par l)[j]? = some (k : Int)) : (flN l k).kind = 0 := by
  obtain ⟨hpl, hpe⟩ := getElem?_par hp
  have hb := par_bd l j hpl
  rw [hpe] at hb
  have hm : (j : Int) ∈ kidsOf (par l) (k : Int) := by
    simp only [kidsOf, List.mem_map, List.mem_filter, List.mem_range]
    refine ⟨j, ⟨hpl, ?_⟩, rfl⟩
    rw [List.getD_eq_getElem?_getD, hp]; simp
  obtain ⟨s', h1, h2⟩ := ix_sub sh 0 h.ix h.good k (by omega) (by have := h.len; omega)
  obtain ⟨nm, r, kd, ks⟩ := s'
  simp only [Ix] at h1
  simp only [GoodS] at h2
  by_cases hk : kd = 0
  · have := h1.1
    unfold flN
    rw [List.getD_eq_getElem?_getD, this]; exact hk
  · have h3 := h1.2.1
    rw [h2.2.2.2.2.1 hk] at h3
    rw [h3] at hm
    cases hm
theorem Sch.up_kind {l : List Fl} {sh : Sh} (h : Sch l sh) : ∀ (i : Nat), i < l.length → ∀ x ∈ Go.Shr.chain (par l) i, x ≠ i → (flN l x).kind = 0 := by
  intro i
  induction i using Nat.strongRecOn with
  | _ i ih =>
    intro hi x hx hne
    have hpl : i < (par l).length := by rw [par_length]; exact hi
    rw [chain_eq (fun j hj => par_bd l j hj) hpl] at hx
    rcases List.mem_cons.1 hx with hx | hx
    · exact absurd hx hne
    · by_cases h0 : (par l)[i] < 0
      · rw [chainI_neg _ h0] at hx; cases hx
      · obtain ⟨k, hk⟩ : ∃ k : Nat, (par l)[i] = (k : Int) := ⟨(par l)[i].toNat, by omega⟩
        have hb := par_bd l i hpl
        rw [hk, chainI_nat] at hx
        have hkp : (par l)[i]? = some (k : Int) := by rw [List.getElem?_eq_getElem hpl, hk]
        by_cases hxk : x = k
        · rw [hxk]; exact h.par_kind hi hkp
        · exact ih k (by omega) (by omega) x hx hxk
/-- A leaf lies on no other field's way. -/
theorem Sch.leaf_chain {l : List Fl} {sh : Sh} (h : Sch l sh) {f i : Nat} (hi : i < l.length) (hf : (flN l f).kind ≠ 0) (hm : f ∈ Go.Shr.chain (par l) i) : f = i := by
  by_cases e : f = i
  · exact e
  · exact absurd (h.up_kind i hi f hm e) hf
mutual
theorem good_leaf : ∀ (s : Sh), GoodS s → ∃ f ∈ flat s, f.kind ≠ 0
  | .mk nm r k ks, h => by
    simp only [GoodS] at h
    by_cases hk : k = 0
    · obtain ⟨f, h1, h2⟩ := goodL_leaf ks h.2.2.2.2.2.2 (h.2.2.2.2.2.1 hk)
      exact ⟨f, by simp only [flat]; exact List.mem_cons_of_mem _ h1, h2⟩
    · exact ⟨_, by simp only [flat]; exact List.mem_cons_self, hk⟩
theorem goodL_leaf : ∀ (ks : List Sh), GoodL ks → ks ≠ [] → ∃ f ∈ flatL ks, f.kind ≠ 0
  | [], _, h => absurd rfl h
  | s :: r, h, _ => by
    simp only [GoodL] at h
    obtain ⟨f, h1, h2⟩ := good_leaf s h.1
    exact ⟨f, by simp only [flatL]; exact List.mem_append_left _ h1, h2⟩
end
theorem leafs_mem {l : List Fl} {m i : Nat} : i ∈ leafs l m ↔ i < m ∧ (flN l i).kind ≠ 0 := by simp [leafs]
theorem Sch.leafs_pos {l : List Fl} {sh : Sh} (h : Sch l sh) : 0 < (leafs l l.length).length := by
  obtain ⟨f, h1, h2⟩ := good_leaf sh h.good
  rw [← h.flat] at h1
  obtain ⟨i, hi, rfl⟩ := List.getElem_of_mem h1
  have : i ∈ leafs l l.length := leafs_mem.2 ⟨hi, by rw [flN_eq hi]; exact h2⟩
  cases hl : leafs l l.length with
  | nil => rw [hl] at this; cases this
  | cons _ _ => simp
theorem Sch.root_kind {l : List Fl} {sh : Sh} (h : Sch l sh) : (flN l 0).kind = 0 := by
  rw [h.flat]
  have := h.kind
  obtain ⟨nm, r, k, ks⟩ := sh
  exact this
theorem chain_dec (P : List Int) : ∀ i, (Go.Shr.chain P i).Pairwise (fun a b => b < a) := by
  intro i
  induction i using Nat.strongRecOn with
  | _ i ih =>
    rw [Go.Shr.chain]
    split
    · rename_i h
      refine List.pairwise_cons.2 ⟨fun x hx => ?_, ih _ h.2⟩
      have := chain_le _ _ x hx
      omega
    · simp
theorem rank_none {f : Nat → Bool} {a : Nat} : ∀ {n : Nat}, a ≤ n → (∀ x, a ≤ x → x < n → f x = false) → rank f n = rank f a
  | 0, h, _ => by rw [show a = 0 by omega]
  | n + 1, h, hf => by
    by_cases e : a = n + 1
    · rw [e]
    · rw [rank_no (hf n (by omega) (by omega)), rank_none (n := n) (by omega) (fun x h1 h2 => hf x h1 (by omega))]
theorem rank_list : ∀ (c : List Nat), c.Pairwise (fun a b => b < a) → ∀ n, (∀ x ∈ c, x < n) → rank (fun x => decide (x ∈ c)) n = c.length
  | [], _, n, _ => by rw [rank_none (a := 0) (Nat.zero_le _) (fun x _ _ => by simp)]; rfl
  | i :: r, hp, n, h => by
    have hi := h i List.mem_cons_self
    have h1 := (List.pairwise_cons.1 hp).1
    rw [rank_none (a := i + 1) (by omega) (fun x hx _ => by
      rw [decide_eq_false_iff_not]
      intro hm
      rcases List.mem_cons.1 hm with e | hm
      · omega
      · have := h1 x hm; omega), rank_yes (by simp), List.length_cons]
    congr 1
    rw [rank_congr (g := fun x => decide (x ∈ r)) (fun k hk => by
      have : k ≠ i := by omega
      rw [Bool.eq_iff_iff]
      simp [this])]
    exact rank_list r (List.pairwise_cons.1 hp).2 i h1
theorem leafs_filter (l : List Fl) : ∀ m, m ≤ l.length → (leafs l m).length = ((l.take m).filter fun x => x.kind != 0).length
  | 0, _ => by simp [leafs]
  | m + 1, h => by
    have ih := leafs_filter l m (by omega)
    have hm : m < l.length := by omega
    rw [List.take_succ_eq_append_getElem hm, List.filter_append, List.length_append, ← ih]
    by_cases hk : (flN l m).kind = 0
    · rw [leafs_no hk]
      rw [flN_eq hm] at hk
      simp [hk]
    · rw [leafs_yes hk]
      rw [flN_eq hm] at hk
      simp [hk]
/-- What is kept of one leaf's way: how many, how many leaves, the last one. -/
theorem one_kept {l : List Fl} {sh : Sh} (h : Sch l sh) {f : Nat} (hf : f < l.length) (hk : (flN l f).kind ≠ 0) :
    rank (fun i => decide (i ∈ Go.Shr.chain (par l) f)) l.length = (Go.Shr.chain (par l) f).length ∧
    (leafs (keptL (fun i => decide (i ∈ Go.Shr.chain (par l) f)) l) (keptL (fun i => decide (i ∈ Go.Shr.chain (par l) f)) l).length).length = 1 ∧
    ∃ c, (keptL (fun i => decide (i ∈ Go.Shr.chain (par l) f)) l)[(keptL (fun i => decide (i ∈ Go.Shr.chain (par l) f)) l).length - 1]? = some ⟨(flN l f).name, (flN l f).rep, (flN l f).kind, c⟩ := by
  have hlt : ∀ x ∈ Go.Shr.chain (par l) f, x < l.length := fun x hx => by have := chain_le _ _ x hx; omega
  have h1 := rank_list _ (chain_dec (par l) f) l.length hlt
  refine ⟨h1, ?_, ?_⟩
  · rw [leafs_filter _ _ (Nat.le_refl _), List.take_length]
    unfold keptL keptG
    rw [List.filter_map, List.length_map, List.filter_filter]
    have : (List.range l.length).filter (fun a => ((fun x : Fl => x.kind != 0) ∘ fun a => (⟨(flN l a).name, (flN l a).rep, (flN l a).kind, (cnt (fun i => decide (i ∈ Go.Shr.chain (par l) f)) (par l) l.length a : Int)⟩ : Fl)) a && decide (a ∈ Go.Shr.chain (par l) f)) = (List.range l.length).filter (fun a => decide (a ∈ [f])) := by
      refine List.filter_congr fun a ha => ?_
      have ha' := List.mem_range.1 ha
      rw [Bool.eq_iff_iff]
      simp only [Function.comp, Bool.and_eq_true, bne_iff_ne, decide_eq_true_eq, List.mem_singleton]
      constructor
      · rintro ⟨h1, h2⟩
        by_cases e : a = f
        · exact e
        · exact absurd (h.up_kind f hf a h2 e) h1
      · rintro rfl
        exact ⟨hk, chain_self _ _⟩
    rw [this]
    exact rank_list [f] (by simp) l.length (by simp [hf])
  · have h2 : (fun i => decide (i ∈ Go.Shr.chain (par l) f)) f = true := by simp [chain_self]
    have h3 : rank (fun i => decide (i ∈ Go.Shr.chain (par l) f)) l.length = rank (fun i => decide (i ∈ Go.Shr.chain (par l) f)) f + 1 := by
      rw [rank_none (a := f + 1) (by omega) (fun x hx _ => by
        rw [decide_eq_false_iff_not]
        intro hm
        have := chain_le _ _ x hm; omega), rank_yes h2]
    rw [keptL_len, h3, Nat.add_sub_cancel]
    exact ⟨_, keptG_at hf h2⟩
end Go.Proofs.Ytgpffcgkfgiodaa
