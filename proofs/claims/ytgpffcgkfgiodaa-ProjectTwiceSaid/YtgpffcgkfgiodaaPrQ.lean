/-
  Plain: the schema of what is kept.
-/
import Derived.Test.YtgpffcgkfgiodaaPrP
set_option linter.unusedSimpArgs false
namespace Go.Proofs.Ytgpffcgkfgiodaa
open Go.RowKit Go.Shr
/-- What is kept with its groups; a group with one of its fields. -/
structure KO (l : List Fl) (f : Nat → Bool) : Prop where
  root : f 0 = true
  up : ∀ (i k : Nat), i < l.length → f i = true → (par l)[i]? = some (k : Int) → f k = true
  kid : ∀ i, i < l.length → f i = true → (flN l i).kind = 0 → ∃ j, j < l.length ∧ (par l)[j]? = some (i : Int) ∧ f j = true
theorem mem_kidsOf {l : List Fl} {i j : Nat} : (j : Int) ∈ kidsOf (par l) (i : Int) ↔ (par l)[j]? = some (i : Int) := by
  simp only [kidsOf, List.mem_map, List.mem_filter, List.mem_range]
  constructor
  · rintro ⟨a, ⟨h1, h2⟩, h3⟩
    obtain rfl : a = j := by omega
    rw [List.getElem?_eq_getElem h1]
    rw [List.getD_eq_getElem?_getD, List.getElem?_eq_getElem h1] at h2
    simpa using h2
  · intro h
    obtain ⟨h1, h2⟩ := getElem?_par h
    refine ⟨j, ⟨h1, ?_⟩, rfl⟩
    rw [List.getD_eq_getElem?_getD, h]; simp
theorem cnt_kids {f : Nat → Bool} {P : List Int} {i : Nat} : cnt f P P.length i = ((kidsOf P (i : Int)).filter fun j => f j.toNat).length := by
  unfold cnt kidsOf
  rw [List.filter_map, List.length_map, List.filter_filter]
  congr 1
  refine List.filter_congr fun j hj => ?_
  have hj' := List.mem_range.1 hj
  rw [List.getD_eq_getElem?_getD, List.getD_eq_getElem?_getD, List.getElem?_eq_getElem hj']
  simp
theorem prL_len {f : Nat → Bool} : ∀ (ks : List Sh) (o : Nat), (prL f o ks).length = ((offs o ks).filter fun j => f j.toNat).length
  | [], _ => by simp [prL, offs]
  | s :: r, o => by
    have ih := prL_len (f := f) r (o + s.size)
    simp only [prL, offs, List.filter_cons]
    by_cases h : f o = true
    · simp [h, ih]
    · simp [h, ih]
/-- Of a field: its cells as they are kept. -/
def kfl (f : Nat → Bool) (l : List Fl) (a : Nat) : Fl := ⟨(flN l a).name, (flN l a).rep, (flN l a).kind, (cnt f (par l) l.length a : Int)⟩
theorem keptL_kfl (f : Nat → Bool) (l : List Fl) : keptL f l = ((List.range l.length).filter f).map (kfl f l) := rfl
mutual
theorem none_S {l : List Fl} {f : Nat → Bool} (hf : KO l f) : ∀ (s : Sh) (i : Nat), Ix l (fun v => kidsOf (par l) v) i s → i + s.size ≤ l.length → f i = false → ∀ j, i ≤ j → j < i + s.size → f j = false
  | .mk nm r k ks, i, h, hl, h0, j, h1, h2 => by
    simp only [Ix] at h
    simp only [Sh.size] at h2 hl
    by_cases e : j = i
    · rw [e]; exact h0
    · refine none_L hf ks (i + 1) h.2.2 (by omega) (fun o ho => ?_) j (by omega) (by omega)
      rw [← h.2.1] at ho
      have hm := kidsOf_mem ho
      obtain ⟨q, rfl⟩ : ∃ q : Nat, o = q := ⟨o.toNat, by omega⟩
      rw [Int.toNat_natCast]
      cases hq : f q with
      | false => rfl
      | true =>
        have := hf.up q i (by rw [par_length] at hm; omega) hq (mem_kidsOf.1 ho)
        rw [h0] at this; cases this
theorem none_L {l : List Fl} {f : Nat → Bool} (hf : KO l f) : ∀ (ks : List Sh) (o : Nat), IxL l (fun v => kidsOf (par l) v) o ks → o + shSizes ks ≤ l.length → (∀ j ∈ offs o ks, f j.toNat = false) → ∀ j, o ≤ j → j < o + shSizes ks → f j = false
  | [], o, _, _, _, j, h1, h2 => by simp only [shSizes] at h2; omega
  | s :: r, o, h, hl, h0, j, h1, h2 => by
    simp only [IxL] at h
    simp only [shSizes] at h2 hl
    simp only [offs] at h0
    by_cases hj : j < o + s.size
    · exact none_S hf s o h.1 (by omega) (by simpa using h0 o List.mem_cons_self) j h1 hj
    · exact none_L hf r (o + s.size) h.2 (by omega) (fun x hx => h0 x (List.mem_cons_of_mem _ hx)) j (by omega) (by omega)
end
theorem range_filter_none {f : Nat → Bool} {o m : Nat} (h : ∀ j, o ≤ j → j < o + m → f j = false) : (List.range' o m).filter f = [] := by
  rw [List.filter_eq_nil_iff]
  intro j hj
  have := List.mem_range'_1.1 hj
  rw [h j this.1 this.2]; simp
mutual
theorem flat_pr {l : List Fl} {f : Nat → Bool} (hf : KO l f) : ∀ (s : Sh) (i : Nat), Ix l (fun v => kidsOf (par l) v) i s → i + s.size ≤ l.length → f i = true → flat (prS f i s) = ((List.range' i s.size).filter f).map (kfl f l)
  | .mk nm r k ks, i, h, hl, h0 => by
    simp only [Ix] at h
    simp only [Sh.size] at hl
    have hn : flN l i = ⟨nm, r, k, ks.length⟩ := by unfold flN; rw [List.getD_eq_getElem?_getD, h.1]; rfl
    simp only [prS, flat, Sh.size]
    rw [Nat.add_comm 1, List.range'_succ, List.filter_cons, if_pos h0, List.map_cons, flatL_pr hf ks (i + 1) h.2.2 (by omega)]
    congr 1
    unfold kfl
    rw [hn]
    have : (cnt f (par l) l.length i) = (prL f (i + 1) ks).length := by
      rw [← par_length l, cnt_kids, prL_len, h.2.1]
    rw [this]
theorem flatL_pr {l : List Fl} {f : Nat → Bool} (hf : KO l f) : ∀ (ks : List Sh) (o : Nat), IxL l (fun v => kidsOf (par l) v) o ks → o + shSizes ks ≤ l.length → flatL (prL f o ks) = ((List.range' o (shSizes ks)).filter f).map (kfl f l)
  | [], o, _, _ => by simp [prL, flatL, shSizes]
  | s :: r, o, h, hl => by
    simp only [IxL] at h
    simp only [shSizes] at hl ⊢
    rw [← List.range'_append_1, List.filter_append, List.map_append]
    have h2 := flatL_pr hf r (o + s.size) h.2 (by omega)
    by_cases h0 : f o = true
    · simp only [prL, h0, if_true, flatL]
      rw [flat_pr hf s o h.1 (by omega) h0, h2]
    · have h0' : f o = false := by simpa using h0
      simp only [prL, h0', Bool.false_eq_true, if_false]
      rw [h2, range_filter_none (none_S hf s o h.1 (by omega) h0')]
      rfl
end
mutual
theorem good_pr {l : List Fl} {f : Nat → Bool} (hf : KO l f) : ∀ (s : Sh) (i : Nat), Ix l (fun v => kidsOf (par l) v) i s → i + s.size ≤ l.length → GoodS s → f i = true → GoodS (prS f i s)
  | .mk nm r k ks, i, h, hl, hg, h0 => by
    simp only [Ix] at h
    simp only [Sh.size] at hl
    have hn : flN l i = ⟨nm, r, k, ks.length⟩ := by unfold flN; rw [List.getD_eq_getElem?_getD, h.1]; rfl
    simp only [GoodS] at hg
    simp only [prS, GoodS]
    refine ⟨hg.1, hg.2.1, hg.2.2.1, hg.2.2.2.1, fun hk => by rw [hg.2.2.2.2.1 hk]; simp [prL], fun hk => ?_, goodL_pr hf ks (i + 1) h.2.2 (by omega) hg.2.2.2.2.2.2⟩
    obtain ⟨j, hj, hp, hfj⟩ := hf.kid i (by omega) h0 (by rw [hn]; exact hk)
    have hm := mem_kidsOf.2 hp
    have h21 : kidsOf (par l) (i : Int) = offs (i + 1) ks := h.2.1
    rw [h21] at hm
    intro e
    have hlen := prL_len (f := f) ks (i + 1)
    rw [e] at hlen
    have : (j : Int) ∈ (offs (i + 1) ks).filter fun j => f j.toNat := List.mem_filter.2 ⟨hm, by simpa using hfj⟩
    have := List.length_pos_of_mem this
    simp at hlen; omega
theorem goodL_pr {l : List Fl} {f : Nat → Bool} (hf : KO l f) : ∀ (ks : List Sh) (o : Nat), IxL l (fun v => kidsOf (par l) v) o ks → o + shSizes ks ≤ l.length → GoodL ks → GoodL (prL f o ks)
  | [], _, _, _, _ => by simp [prL, GoodL]
  | s :: r, o, h, hl, hg => by
    simp only [IxL] at h
    simp only [GoodL] at hg
    simp only [shSizes] at hl
    have h2 := goodL_pr hf r (o + s.size) h.2 (by omega) hg.2
    by_cases h0 : f o = true
    · simp only [prL, h0, if_true, GoodL]
      exact ⟨good_pr hf s o h.1 (by omega) hg.1 h0, h2⟩
    · simp only [prL, h0, if_false]
      exact h2
end
/-- What is kept is a schema. -/
theorem Sch.kept {l : List Fl} {sh : Sh} (h : Sch l sh) {f : Nat → Bool} (hf : KO l f) : Sch (keptL f l) (prS f 0 sh) := by
  have hl := h.len
  have h1 := flat_pr hf sh 0 h.ix (by omega) hf.root
  have h2 : keptL f l = Go.Proofs.Ytgpffcgkfgiodaa.flat (prS f 0 sh) := by rw [keptL_kfl, h1, hl, List.range_eq_range']
  refine ⟨h2, good_pr hf sh 0 h.ix (by omega) h.good hf.root, ?_, ?_⟩
  · have := h.kind
    obtain ⟨nm, r, k, ks⟩ := sh
    exact this
  · rw [← flat_length, ← h2, keptL_len]
    have := rank_le (f := f) (m := l.length)
    have := h.size
    omega
theorem keptL_nms {l : List Fl} (h : Nms l) (f : Nat → Bool) : Nms (keptL f l) := by
  refine ⟨fun x hx => ?_, ?_⟩
  · obtain ⟨a, ha, rfl⟩ := List.mem_map.1 hx
    have := List.mem_range.1 (List.mem_filter.1 ha).1
    dsimp only
    rw [flN_eq this]
    exact h.1 _ (List.getElem_mem this)
  · have e : (keptL f l).map (fun x => let1 x.name) = ((List.range l.length).filter f).map fun a => let1 (flN l a).name := by
      unfold keptL keptG; rw [List.map_map]; rfl
    have e2 : l.map (fun x => let1 x.name) = (List.range l.length).map fun a => let1 (flN l a).name := by
      refine List.ext_getElem (by simp) fun a h1 h2 => ?_
      simp only [List.getElem_map, List.getElem_range]
      rw [flN_eq (by simpa using h1)]
    rw [e]
    have h2 := h.2
    rw [e2] at h2
    exact h2.sublist (List.filter_sublist.map _)
theorem keptL_wy {l : List Fl} {sh : Sh} (h : Sch l sh) (hl : l.length ≤ 20) (hn : Nms l) {f : Nat → Bool} (hf : KO l f) : Wy (keptL f l) (wayAt (prS f 0 sh)) :=
  Wy.mk' (h.kept hf) (by rw [keptL_len]; have := rank_le (f := f) (m := l.length); omega) (keptL_nms hn f)
/-! Which fields paths keep: with their groups, a group with one of its fields. -/
theorem chain_child (P : List Int) : ∀ (a i : Nat), i ∈ Go.Shr.chain P a → i ≠ a → ∃ j, j ∈ Go.Shr.chain P a ∧ P.getD j (-1) = (i : Int) := by
  intro a
  induction a using Nat.strongRecOn with
  | _ a ih =>
    intro i hi hne
    rw [Go.Shr.chain] at hi
    split at hi
    · rename_i h
      rcases List.mem_cons.1 hi with e | hi
      · exact absurd e hne
      · by_cases e : i = (P.getD a (-1)).toNat
        · exact ⟨a, chain_self _ _, by omega⟩
        · obtain ⟨j, h1, h2⟩ := ih _ h.2 i hi e
          refine ⟨j, ?_, h2⟩
          rw [Go.Shr.chain, dif_pos h]
          exact List.mem_cons_of_mem _ h1
    · exact absurd (by simpa using hi) hne
theorem Sch.some_kid {l : List Fl} {sh : Sh} (h : Sch l sh) {i : Nat} (hi : i < l.length) (hk : (flN l i).kind = 0) : ∃ j, j < l.length ∧ (par l)[j]? = some (i : Int) := by
  obtain ⟨s', h1, h2⟩ := ix_sub sh 0 h.ix h.good i (Nat.zero_le _) (by have := h.len; omega)
  obtain ⟨nm, r, k, ks⟩ := s'
  simp only [Ix] at h1
  simp only [GoodS] at h2
  have hn : flN l i = ⟨nm, r, k, ks.length⟩ := by unfold flN; rw [List.getD_eq_getElem?_getD, h1.1]; rfl
  have hne := h2.2.2.2.2.2.1 (by rw [hn] at hk; exact hk)
  cases ks with
  | nil => exact absurd rfl hne
  | cons s r =>
    have hm : ((i + 1 : Nat) : Int) ∈ kidsOf (par l) (i : Int) := by
      have h21 : kidsOf (par l) (i : Int) = offs (i + 1) (s :: r) := h1.2.1
      rw [h21]
      simp only [offs]; exact List.mem_cons_self
    have hp := mem_kidsOf.1 hm
    obtain ⟨h3, _⟩ := getElem?_par hp
    exact ⟨i + 1, by rw [par_length] at h3; exact h3, hp⟩
theorem Wy.ko {l : List Fl} {sh : Sh} {W : Nat → List UInt8} (h : Wy l W) (hS : Sch l sh) {ps : List ByteArray} (ha : allA l ps) : KO l (fun k => KW ps (W k)) := by
  have hcl : ∀ (i k : Nat), i < l.length → KW ps (W i) = true → (par l)[i]? = some (k : Int) → KW ps (W k) = true := fun i k hi hk hp => by
    have hki := (h.chain_up hi hp).1
    rw [← h.kpF_eq ha i hi] at hk
    rw [← h.kpF_eq ha k (by omega)]
    exact h.closed ps i k hi hk hp
  refine ⟨?_, hcl, fun i hi hk hkd => ?_⟩
  · show KW ps (W 0) = true
    rw [h.root]
    unfold KW kp
    cases ps with
    | nil => rfl
    | cons p r => simp [byts]
  · have hk' : KW ps (W i) = true := hk
    obtain ⟨j0, hj0, hp0⟩ := hS.some_kid hi hkd
    rw [← h.kpR_eq ha i hi] at hk'
    unfold kpR at hk'
    rw [Bool.or_eq_true] at hk'
    have conv : ∀ j, j < l.length → (kpR l ps j = true) → KW ps (W j) = true := fun j hj e => by rw [← h.kpR_eq ha j hj]; exact e
    rcases hk' with hk' | hk'
    · unfold Go.Proofs.Ytgpffcgkfgiodaa.keepR at hk'
      obtain ⟨p, hpm, hk'⟩ := List.any_eq_true.1 hk'
      obtain ⟨q, hq, rfl⟩ := mem_byts hpm
      have h3 := (atR_iff (l := l) (p := q.data.toList) (n := l.length)).1.2 (ha q hq)
      have h4 := ((atR_iff (l := l) (p := q.data.toList) (n := l.length)).2 h3).1
      have mk : ∀ j, j < l.length → (atR l q.data.toList l.length ∈ Go.Shr.chain (par l) j ∨ j ∈ Go.Shr.chain (par l) (atR l q.data.toList l.length)) → KW ps (W j) = true := fun j hj e => conv j hj (by
        unfold kpR Go.Proofs.Ytgpffcgkfgiodaa.keepR
        rw [Bool.or_eq_true]
        refine .inl (List.any_eq_true.2 ⟨_, hpm, ?_⟩)
        rw [Bool.or_eq_true, decide_eq_true_eq, decide_eq_true_eq]
        exact e)
      rw [Bool.or_eq_true, decide_eq_true_eq, decide_eq_true_eq] at hk'
      have down : atR l q.data.toList l.length ∈ Go.Shr.chain (par l) i → KW ps (W j0) = true := fun hm => by
        refine mk j0 hj0 (.inl ?_)
        obtain ⟨h5, h6⟩ := getElem?_par hp0
        rw [chain_eq (fun j hj => par_bd l j hj) h5, h6, chainI_nat]
        exact List.mem_cons_of_mem _ hm
      rcases hk' with hk' | hk'
      · exact ⟨j0, hj0, hp0, down hk'⟩
      · by_cases e : i = atR l q.data.toList l.length
        · exact ⟨j0, hj0, hp0, down (by rw [← e]; exact chain_self _ _)⟩
        · obtain ⟨j, hj1, hj2⟩ := chain_child (par l) _ i hk' e
          have hjl : j < l.length := by have := chain_le _ _ j hj1; omega
          refine ⟨j, hjl, ?_, mk j hjl (.inr hj1)⟩
          rw [getD_par hjl] at hj2
          rw [List.getElem?_eq_getElem (by rw [par_length]; exact hjl), hj2]
    · exact ⟨j0, hj0, hp0, conv j0 hj0 (by unfold kpR; rw [hk']; simp)⟩
end Go.Proofs.Ytgpffcgkfgiodaa
