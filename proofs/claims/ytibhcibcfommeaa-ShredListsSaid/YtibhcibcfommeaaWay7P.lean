/-
  Plain: a place and its groups; paths. Plain: ways to fields; which fields lie on the way to one.
-/
import Derived.Test.YtibhcibcfommeaaSchP
import Derived.Test.YtibhcibcfommeaaSchG
set_option linter.unusedSimpArgs false
namespace Go.Shr
/-- A place and its groups, outwards. -/
def chain (P : List Int) (i : Nat) : List Nat :=
  if h : 0 ≤ P.getD i (-1) ∧ (P.getD i (-1)).toNat < i then i :: chain P (P.getD i (-1)).toNat else [i]
termination_by i
decreasing_by exact h.2
def chainI (P : List Int) (k : Int) : List Nat := if k < 0 then [] else chain P k.toNat
theorem chainI_nat (P : List Int) (k : Nat) : chainI P (k : Int) = chain P k := by unfold chainI; rw [if_neg (by omega)]; simp
theorem chainI_neg (P : List Int) {k : Int} (h : k < 0) : chainI P k = [] := by unfold chainI; rw [if_pos h]
theorem chain_eq {P : List Int} (hb : ∀ (j : Nat) (h : j < P.length), -1 ≤ P[j] ∧ P[j] < (j : Int)) {i : Nat} (hi : i < P.length) : chain P i = i :: chainI P P[i] := by
  have h1 := hb i hi
  have e : P.getD i (-1) = P[i] := by simp [List.getD, hi]
  rw [chain, e]
  unfold chainI
  by_cases h : P[i] < 0
  · rw [dif_neg (by omega), if_pos h]
  · rw [dif_pos ⟨by omega, by omega⟩, if_neg h]
theorem chain_le (P : List Int) : ∀ (i x : Nat), x ∈ chain P i → x ≤ i := by
  intro i
  induction i using Nat.strongRecOn with
  | _ i ih =>
    intro x hx
    rw [chain] at hx
    split at hx
    · rename_i h
      rcases List.mem_cons.1 hx with rfl | hx
      · exact Nat.le_refl _
      · have := ih _ h.2 x hx; omega
    · simp at hx; omega
theorem chain_self (P : List Int) (i : Nat) : i ∈ chain P i := by rw [chain]; split <;> simp
theorem chain_sub (P : List Int) (a : Nat) : ∀ (i : Nat), a ∈ chain P i → ∃ A, chain P i = A ++ chain P a ∧ ∀ x ∈ A, a < x := by
  intro i
  induction i using Nat.strongRecOn with
  | _ i ih =>
    intro ha
    by_cases hai : a = i
    · subst hai; exact ⟨[], rfl, by simp⟩
    · have hlt := chain_le P i a ha
      rw [chain] at ha
      split at ha
      · rename_i h
        rcases List.mem_cons.1 ha with rfl | ha
        · exact absurd rfl hai
        · obtain ⟨A, e, hA⟩ := ih _ h.2 ha
          refine ⟨i :: A, ?_, ?_⟩
          · rw [chain, dif_pos h, e]; rfl
          · intro x hx
            rcases List.mem_cons.1 hx with rfl | hx
            · omega
            · exact hA x hx
      · simp at ha; exact absurd ha hai
theorem chain_lin {P : List Int} {i a b : Nat} (ha : a ∈ chain P i) (hb : b ∈ chain P i) : a ∈ chain P b ∨ b ∈ chain P a := by
  by_cases h : a ≤ b
  · obtain ⟨A, e, hA⟩ := chain_sub P b i hb
    rw [e] at ha
    rcases List.mem_append.1 ha with ha | ha
    · have := hA a ha; omega
    · exact .inl ha
  · obtain ⟨A, e, hA⟩ := chain_sub P a i ha
    rw [e] at hb
    rcases List.mem_append.1 hb with hb | hb
    · have := hA b hb; omega
    · exact .inr hb
/-- What one path keeps, as project and as the document tell it. -/
theorem keep_iff {P : List Int} {n a k : Nat} (h1 : 1 ≤ a) (h2 : a < n) (hk : k < n) : (∃ i, 1 ≤ i ∧ i < n ∧ a ∈ chain P i ∧ k ∈ chain P i) ↔ (a ∈ chain P k ∨ k ∈ chain P a) := by
  constructor
  · rintro ⟨i, _, _, h3, h4⟩
    exact chain_lin h3 h4
  · rintro (h | h)
    · have := chain_le P k a h
      exact ⟨k, by omega, hk, h, chain_self P k⟩
    · exact ⟨a, h1, h2, chain_self P a, h⟩
/-- Letters with dots between them. -/
def inter : List UInt8 → List UInt8
  | [] => []
  | [x] => [x]
  | x :: y :: r => x :: 46 :: inter (y :: r)
theorem inter_cons (x : UInt8) {l : List UInt8} (h : l ≠ []) : inter (x :: l) = x :: 46 :: inter l := by
  cases l with
  | nil => exact absurd rfl h
  | cons y r => rfl
theorem inter_len : ∀ (l : List UInt8), l ≠ [] → (inter l).length + 1 = 2 * l.length
  | [], h => absurd rfl h
  | [x], _ => rfl
  | x :: y :: r, _ => by
    have := inter_len (y :: r) (by simp)
    simp only [inter, List.length_cons] at *; omega
theorem inter_app : ∀ (a c : List UInt8), a ≠ [] → c ≠ [] → inter (a ++ c) = inter a ++ 46 :: inter c
  | [], c, h, _ => absurd rfl h
  | [x], c, _, hc => by rw [List.singleton_append, inter_cons x hc]; rfl
  | x :: y :: r, c, _, hc => by
    have := inter_app (y :: r) c (by simp) hc
    simp only [List.cons_append] at this ⊢
    rw [inter, this, inter]; simp
theorem inter_inj : ∀ (a b : List UInt8), inter a = inter b → a = b
  | [], [], _ => rfl
  | [], [x], h => by simp [inter] at h
  | [], x :: y :: r, h => by simp [inter] at h
  | [x], [], h => by simp [inter] at h
  | x :: y :: r, [], h => by simp [inter] at h
  | [x], [z], h => by simpa [inter] using h
  | [x], z :: w :: q, h => by simp [inter] at h
  | x :: y :: r, [z], h => by simp [inter] at h
  | x :: y :: r, z :: w :: q, h => by
    simp only [inter, List.cons.injEq, true_and] at h
    have := inter_inj (y :: r) (w :: q) h.2
    rw [h.1, this]
/-- project.inside. -/
def insideB (own path : List UInt8) : Bool := if path.length < own.length then (own.getD path.length 0 == 46) && (own.take path.length == path) else own == path
theorem inside_inter {a b : List UInt8} (ha : a ≠ []) (hb : b ≠ []) : insideB (inter a) (inter b) = true ↔ b <+: a := by
  have la := inter_len a ha
  have lb := inter_len b hb
  unfold insideB
  by_cases hl : (inter b).length < (inter a).length
  · rw [if_pos hl]
    have hk : b.length < a.length := by omega
    have ht : (a.take b.length) ≠ [] := by
      intro h
      have := congrArg List.length h
      have hbp : 0 < b.length := by cases b with | nil => exact absurd rfl hb | cons _ _ => simp
      rw [List.length_take, List.length_nil] at this; omega
    have hd : (a.drop b.length) ≠ [] := by
      intro h
      have := congrArg List.length h
      simp at this; omega
    have e := inter_app (a.take b.length) (a.drop b.length) ht hd
    rw [List.take_append_drop] at e
    have lt := inter_len _ ht
    have htl : (a.take b.length).length = b.length := by rw [List.length_take]; omega
    rw [htl] at lt
    have hlen : (inter (a.take b.length)).length = (inter b).length := by omega
    have e1 : (inter a).getD (inter b).length 0 = 46 := by
      rw [e, ← hlen]; simp [List.getD]
    have e2 : (inter a).take (inter b).length = inter (a.take b.length) := by
      rw [e, ← hlen, List.take_left]
    rw [e1, e2]
    simp only [beq_self_eq_true, Bool.true_and, beq_iff_eq]
    constructor
    · intro h
      have := inter_inj _ _ h
      rw [← this]; exact List.take_prefix _ _
    · intro h
      rw [List.prefix_iff_eq_take] at h
      rw [← h]
  · rw [if_neg hl]
    simp only [beq_iff_eq]
    constructor
    · intro h; rw [inter_inj _ _ h]; exact List.prefix_refl _
    · intro h
      have hlen := h.length_le
      have : b = a := h.eq_of_length (by omega)
      rw [this]
end Go.Shr
namespace Go.Shr
/-- The chain without the root. -/
def up (P : List Int) (i : Nat) : List Nat := (chain P i).filter (fun x => decide (0 < x))
def upI (P : List Int) (k : Int) : List Nat := if k ≤ 0 then [] else up P k.toNat
theorem upI_le (P : List Int) {k : Int} (h : k ≤ 0) : upI P k = [] := by unfold upI; rw [if_pos h]
theorem upI_nat (P : List Int) {k : Nat} (h : 0 < k) : upI P (k : Int) = up P k := by unfold upI; rw [if_neg (by omega)]; simp
theorem chain_zero (P : List Int) : chain P 0 = [0] := by rw [chain, dif_neg (by omega)]
theorem up_eq {P : List Int} (hb : ∀ (j : Nat) (h : j < P.length), -1 ≤ P[j] ∧ P[j] < (j : Int)) {i : Nat} (hi : i < P.length) (h0 : 0 < i) : up P i = i :: upI P P[i] := by
  unfold up
  rw [chain_eq hb hi, List.filter_cons, if_pos (by simpa using h0)]
  congr 1
  by_cases h1 : P[i] < 0
  · rw [chainI_neg P h1, upI_le P (by omega)]; rfl
  · obtain ⟨k, hk⟩ : ∃ k : Nat, P[i] = (k : Int) := ⟨P[i].toNat, by omega⟩
    rw [hk, chainI_nat]
    by_cases h2 : k = 0
    · subst h2; rw [chain_zero, upI_le P (by omega)]; rfl
    · rw [upI_nat P (by omega)]; rfl
theorem up_mem {P : List Int} {i x : Nat} : x ∈ up P i ↔ x ∈ chain P i ∧ 0 < x := by unfold up; simp
/-- A path's letters. -/
def pathL (b : Nat → UInt8) (P : List Int) (i : Nat) : List UInt8 := inter (((up P i).map b).reverse)
theorem up_ne {P : List Int} {i : Nat} (h : 0 < i) : up P i ≠ [] := by
  intro e
  have : i ∈ up P i := up_mem.2 ⟨chain_self P i, h⟩
  rw [e] at this; cases this
theorem up_head {P : List Int} {i : Nat} (h : 0 < i) : ∃ r, up P i = i :: r := by
  unfold up
  rw [chain]
  split
  · rw [List.filter_cons, if_pos (by simpa using h)]; exact ⟨_, rfl⟩
  · rw [List.filter_cons, if_pos (by simpa using h)]; exact ⟨_, rfl⟩
theorem inside_path {b : Nat → UInt8} {P : List Int} {n i a : Nat} (hinj : ∀ x y, 0 < x → x < n → 0 < y → y < n → b x = b y → x = y) (hi : 0 < i) (hin : i < n) (ha : 0 < a) (han : a < n) :
    insideB (pathL b P i) (pathL b P a) = true ↔ a ∈ chain P i := by
  unfold pathL
  rw [inside_inter (by simpa using up_ne hi) (by simpa using up_ne ha), List.reverse_prefix]
  constructor
  · rintro ⟨A, e⟩
    obtain ⟨r, hr⟩ := up_head (P := P) ha
    have hm : b a ∈ (up P i).map b := by rw [← e, hr]; simp
    obtain ⟨x, hx, hxe⟩ := List.mem_map.1 hm
    obtain ⟨h1, h2⟩ := up_mem.1 hx
    have := chain_le P i x h1
    have := hinj x a h2 (by omega) ha han hxe
    subst this
    exact h1
  · intro h
    obtain ⟨A, e, _⟩ := chain_sub P a i h
    refine ⟨((A.filter (fun x => decide (0 < x))).map b), ?_⟩
    unfold up
    rw [e, List.filter_append, List.map_append]
theorem path_inj {b : Nat → UInt8} {P : List Int} {n i a : Nat} (hinj : ∀ x y, 0 < x → x < n → 0 < y → y < n → b x = b y → x = y) (hi : 0 < i) (hin : i < n) (ha : 0 < a) (han : a < n) (h : pathL b P i = pathL b P a) : i = a := by
  unfold pathL at h
  have h1 := List.reverse_inj.1 (inter_inj _ _ h)
  obtain ⟨r, hr⟩ := up_head (P := P) hi
  obtain ⟨q, hq⟩ := up_head (P := P) ha
  rw [hr, hq, List.map_cons, List.map_cons] at h1
  injection h1 with h1 _
  exact hinj i a hi hin ha han h1
/-- As Path goes: name by name. -/
def joinS (nm : Nat → ByteArray) : List Nat → ByteArray → ByteArray
  | [], out => out
  | k :: r, out => joinS nm r (nm k ++ ⟨#[46]⟩ ++ out)
theorem joinS_inter {nm : Nat → ByteArray} {b : Nat → UInt8} : ∀ (c : List Nat) (out : ByteArray) (L : List UInt8), (∀ x ∈ c, (nm x).data.toList = [b x]) → L ≠ [] → out.data.toList = inter L → (joinS nm c out).data.toList = inter ((c.map b).reverse ++ L)
  | [], out, L, _, _, h => by simpa [joinS] using h
  | k :: r, out, L, hn, hL, h => by
    have h1 := hn k List.mem_cons_self
    rw [joinS, joinS_inter r _ (b k :: L) (fun x hx => hn x (List.mem_cons_of_mem _ hx)) (by simp) (by
      rw [inter_cons _ hL]
      simp [ByteArray.data_append, h1, h])]
    simp
end Go.Shr
namespace Go.Proofs.Ytibhcibcfommeaa
open Go.RowKit Go.Shr
/-- A name's letter. -/
def let1 (s : ByteArray) : UInt8 := s.data.toList.headD 0
mutual
/-- The ways to a shape's fields; pre is the way to the shape itself. -/
def waysS (pre : List UInt8) : Sh → List (List UInt8)
  | .mk _ _ _ ks => pre :: waysL pre ks
def waysL (pre : List UInt8) : List Sh → List (List UInt8)
  | [] => []
  | s :: r => waysS (pre ++ [let1 s.name]) s ++ waysL pre r
end
mutual
theorem waysS_len : ∀ (s : Sh) (pre : List UInt8), (waysS pre s).length = s.size
  | .mk _ _ _ ks, pre => by simp only [waysS, List.length_cons, Sh.size, waysL_len ks]; omega
theorem waysL_len : ∀ (ks : List Sh) (pre : List UInt8), (waysL pre ks).length = shSizes ks
  | [], _ => rfl
  | s :: r, pre => by simp only [waysL, List.length_append, shSizes, waysS_len s, waysL_len r]
end
theorem waysL_par : ∀ (ks : List Sh) (g : Int) (i : Nat) (pre : List UInt8) (k : Nat) (x : List UInt8) (p : Int) (f : Fl), (waysL pre ks)[k]? = some x → (parsL g i ks)[k]? = some p → (flatL ks)[k]? = some f →
    (p = g ∧ x = pre ++ [let1 f.name]) ∨ (∃ q : Nat, p = ((i + q : Nat) : Int) ∧ q < k ∧ ∃ y, (waysL pre ks)[q]? = some y ∧ x = y ++ [let1 f.name])
  | [], _, _, _, _, _, _, _, h, _, _ => by simp [waysL] at h
  | .mk nm rp kd qs :: r, g, i, pre, 0, x, p, f, h1, h2, h3 => by
    simp [waysL, waysS, Sh.name] at h1
    simp [parsL, parsS] at h2
    simp [flatL, flat] at h3
    subst h3
    exact .inl ⟨h2.symm, h1.symm⟩
  | .mk nm rp kd qs :: r, g, i, pre, k + 1, x, p, f, h1, h2, h3 => by
    simp only [waysL, waysS, Sh.name, List.cons_append, List.getElem?_cons_succ] at h1
    simp only [parsL, parsS, List.cons_append, List.getElem?_cons_succ] at h2
    simp only [flatL, flat, List.cons_append, List.getElem?_cons_succ] at h3
    by_cases hk : k < shSizes qs
    · rw [List.getElem?_append_left (by rw [waysL_len]; exact hk)] at h1
      rw [List.getElem?_append_left (by rw [parsL_length]; exact hk)] at h2
      rw [List.getElem?_append_left (by rw [flatL_length]; exact hk)] at h3
      rcases waysL_par qs i (i + 1) (pre ++ [let1 nm]) k x p f h1 h2 h3 with ⟨e1, e2⟩ | ⟨q, e1, e2, y, e3, e4⟩
      · exact .inr ⟨0, by simpa using e1, by omega, _, rfl, e2⟩
      · refine .inr ⟨q + 1, by rw [e1]; congr 1; omega, by omega, y, ?_, e4⟩
        simp only [waysL, waysS, Sh.name, List.cons_append, List.getElem?_cons_succ]
        rw [List.getElem?_append_left (by rw [waysL_len]; omega)]
        exact e3
    · rw [List.getElem?_append_right (by rw [waysL_len]; omega), waysL_len] at h1
      rw [List.getElem?_append_right (by rw [parsL_length]; omega), parsL_length] at h2
      rw [List.getElem?_append_right (by rw [flatL_length]; omega), flatL_length] at h3
      rcases waysL_par r g (i + (Sh.mk nm rp kd qs).size) pre (k - shSizes qs) x p f h1 h2 h3 with e | ⟨q, e1, e2, y, e3, e4⟩
      · exact .inl e
      · refine .inr ⟨shSizes qs + 1 + q, by rw [e1]; simp only [Sh.size]; congr 1; omega, by omega, y, ?_, e4⟩
        rw [show shSizes qs + 1 + q = (shSizes qs + q) + 1 by omega]
        simp only [waysL, waysS, Sh.name, List.cons_append, List.getElem?_cons_succ]
        rw [List.getElem?_append_right (by rw [waysL_len]; omega), waysL_len, show shSizes qs + q - shSizes qs = q by omega]
        exact e3
termination_by ks => shSizes ks
decreasing_by
  · simp only [shSizes, Sh.size]; omega
  · simp only [shSizes, Sh.size]; omega
/-- What is said of a schema's fields and of the ways to them. -/
structure Wy (l : List Fl) (W : Nat → List UInt8) : Prop where
  pos : 0 < l.length
  len : l.length ≤ 20
  name : ∀ (i : Nat) (h : i < l.length), ∃ c : UInt8, l[i].name.data.toList = [c] ∧ c.toNat < 128 ∧ c ≠ 46
  root : W 0 = []
  step : ∀ (i : Nat) (h : i < l.length), 0 < i → ∃ k : Nat, (par l)[i]? = some (k : Int) ∧ k < i ∧ W i = W k ++ [let1 l[i].name]
  inj : ∀ i j, i < l.length → j < l.length → W i = W j → i = j
def wayAt (sh : Sh) (i : Nat) : List UInt8 := (waysS [] sh).getD i []
theorem Wy.of {l : List Fl} {sh : Sh} (h : Sch l sh) (hs : l.length ≤ 20) (hn : ∀ f ∈ l, ∃ c : UInt8, f.name.data.toList = [c] ∧ c.toNat < 128 ∧ c ≠ 46) (hd : (waysS [] sh).Nodup) : Wy l (wayAt sh) := by
  have hl := h.len
  have hwl := waysS_len sh []
  refine ⟨by rw [hl]; exact shsize_pos' sh, hs, fun i hi => hn _ (List.getElem_mem hi), ?_, fun i hi h0 => ?_, fun i j hi hj e => ?_⟩
  · obtain ⟨nm, rp, kd, ks⟩ := sh; rfl
  · obtain ⟨k, rfl⟩ : ∃ k, i = k + 1 := ⟨i - 1, by omega⟩
    have hp := par_root sh h.good h.kind
    rw [← h.flat] at hp
    rw [hp]
    have hf : l[k + 1]? = some l[k + 1] := List.getElem?_eq_getElem hi
    obtain ⟨f, hff⟩ : ∃ f, f = l[k + 1] := ⟨_, rfl⟩
    rw [← hff] at hf
    rw [← hff, ]
    rw [h.flat] at hf
    obtain ⟨nm, rp, kd, ks⟩ := sh
    have hk : k < shSizes ks := by rw [hl] at hi; simp only [Sh.size] at hi; omega
    simp only [flat, List.getElem?_cons_succ] at hf
    have e2 : (parsL ((0 : Nat) : Int) 1 ks)[k]? = some ((parsL ((0 : Nat) : Int) 1 ks)[k]'(by rw [parsL_length]; exact hk)) := List.getElem?_eq_getElem _
    have e1 : (waysL [] ks)[k]? = some ((waysL [] ks)[k]'(by rw [waysL_len]; exact hk)) := List.getElem?_eq_getElem _
    have hw : wayAt (.mk nm rp kd ks) (k + 1) = (waysL [] ks)[k]'(by rw [waysL_len]; exact hk) := by
      simp [wayAt, waysS, List.getD, e1]
    rw [hw]
    simp only [parsS, List.getElem?_cons_succ, Nat.zero_add]
    rcases waysL_par ks _ 1 [] k _ _ f e1 e2 hf with ⟨a1, a2⟩ | ⟨q, a1, a2, y, a3, a4⟩
    · exact ⟨0, by rw [e2, a1], by omega, by rw [a2]; rfl⟩
    · refine ⟨1 + q, by rw [e2, a1], by omega, ?_⟩
      rw [a4]
      simp [wayAt, waysS, List.getD, Nat.add_comm 1 q, a3]
  · have a1 : (waysS [] sh)[i]? = some (wayAt sh i) := by
      unfold wayAt; rw [List.getD_eq_getElem?_getD, List.getElem?_eq_getElem (by omega)]; rfl
    have a2 : (waysS [] sh)[j]? = some (wayAt sh j) := by
      unfold wayAt; rw [List.getD_eq_getElem?_getD, List.getElem?_eq_getElem (by omega)]; rfl
    rw [e, ← a2] at a1
    exact (List.getElem?_inj (by omega) hd).1 a1
theorem getElem?_par {l : List Fl} {i : Nat} {k : Int} (h : (par l)[i]? = some k) : ∃ hi : i < (par l).length, (par l)[i] = k := List.getElem?_eq_some_iff.1 h
theorem Wy.chain {l : List Fl} {W : Nat → List UInt8} (h : Wy l W) : ∀ (i : Nat), i < l.length → ∀ j, j < l.length → (j ∈ chain (par l) i ↔ W j <+: W i) := by
  intro i
  induction i using Nat.strongRecOn with
  | _ i ih =>
    intro hi j hj
    by_cases h0 : i = 0
    · subst h0
      rw [chain_zero, h.root, List.prefix_nil]
      constructor
      · intro e
        obtain rfl : j = 0 := by simpa using e
        exact h.root
      · intro e
        rw [← h.root] at e
        simp [h.inj j 0 hj hi e]
    · obtain ⟨k, hk, hki, hw⟩ := h.step i hi (by omega)
      obtain ⟨hpl, hpe⟩ := getElem?_par hk
      rw [chain_eq (fun j hj => par_bd l j hj) hpl, hpe, chainI_nat, hw, List.mem_cons, ih k hki (by omega) j hj, List.prefix_concat_iff]
      constructor
      · rintro (e | e)
        · subst e; exact .inl hw
        · exact .inr e
      · rintro (e | e)
        · exact .inl (h.inj j i hj hi (e.trans hw.symm))
        · exact .inr e
theorem Wy.upI {l : List Fl} {W : Nat → List UInt8} (h : Wy l W) : ∀ (i : Nat), i < l.length → W i = ((upI (par l) (i : Int)).map (fun k => let1 (l.getD k Fl.none).name)).reverse := by
  intro i
  induction i using Nat.strongRecOn with
  | _ i ih =>
    intro hi
    by_cases h0 : i = 0
    · subst h0
      rw [h.root, upI_le _ (by omega)]; rfl
    · obtain ⟨k, hk, hki, hw⟩ := h.step i hi (by omega)
      obtain ⟨hpl, hpe⟩ := getElem?_par hk
      rw [upI_nat _ (by omega), up_eq (fun j hj => par_bd l j hj) hpl (by omega), hpe, hw, ih k hki (by omega)]
      simp [hi]
/-- A field's path. -/
def ownS (l : List Fl) (i : Nat) : ByteArray := joinS (fun k => (l.getD k Fl.none).name) (upI (par l) ((par l).getD i (-1))) (l.getD i Fl.none).name
theorem Wy.own {l : List Fl} {W : Nat → List UInt8} (h : Wy l W) {i : Nat} (h0 : 0 < i) (hi : i < l.length) : (ownS l i).data.toList = inter (W i) := by
  obtain ⟨k, hk, hki, hw⟩ := h.step i hi h0
  have e : (par l).getD i (-1) = (k : Int) := by rw [List.getD_eq_getElem?_getD, hk]; rfl
  have hb : ∀ x, x < l.length → (l.getD x Fl.none).name.data.toList = [let1 (l.getD x Fl.none).name] := by
    intro x hx
    obtain ⟨c, h1, _, _⟩ := h.name x hx
    have : l.getD x Fl.none = l[x] := by simp [List.getD, hx]
    rw [this, h1, let1, h1]; rfl
  unfold ownS
  rw [e, joinS_inter (b := fun k => let1 (l.getD k Fl.none).name) _ _ [let1 (l.getD i Fl.none).name] (fun x hx => hb x ?_) (by simp) (by rw [hb i hi]; rfl), hw, h.upI k (by omega)]
  · simp [hi]
  · unfold Go.Shr.upI at hx
    split at hx
    · cases hx
    · have := chain_le _ _ _ (up_mem.1 hx).1
      simp at this; omega
theorem Wy.ne {l : List Fl} {W : Nat → List UInt8} (h : Wy l W) {i : Nat} (h0 : 0 < i) (hi : i < l.length) : W i ≠ [] := by
  obtain ⟨k, _, _, hw⟩ := h.step i hi h0
  rw [hw]; simp
theorem Wy.own_inj {l : List Fl} {W : Nat → List UInt8} (h : Wy l W) {i j : Nat} (h0 : 0 < i) (hi : i < l.length) (h1 : 0 < j) (hj : j < l.length) (e : (ownS l i).data.toList = (ownS l j).data.toList) : i = j := by
  rw [h.own h0 hi, h.own h1 hj] at e
  exact h.inj i j hi hj (inter_inj _ _ e)
/-! What paths keep. -/
/-- Is a path one of the fields' (those ahead of n)? -/
def isA (l : List Fl) (p : List UInt8) (n : Nat) : Bool := (List.range n).any fun i => decide (0 < i) && ((ownS l i).data.toList == p)
/-- Is a field kept by a path, by the fields ahead of n? -/
def inA (l : List Fl) (p : List UInt8) (n : Nat) (k : Nat) : Bool := (List.range n).any fun i => decide (0 < i) && insideB (ownS l i).data.toList p && decide (k ∈ Go.Shr.chain (par l) i)
def keepP (l : List Fl) (ps : List (List UInt8)) (k : Nat) : Bool := ps.any fun p => inA l p l.length k
/-- The field of a path (the last one ahead of n); 0: none. -/
def atR (l : List Fl) (p : List UInt8) : Nat → Nat
  | 0 => 0
  | n + 1 => if 0 < n ∧ (ownS l n).data.toList = p then n else atR l p n
def keepR (l : List Fl) (ps : List (List UInt8)) (k : Nat) : Bool := ps.any fun p => decide (atR l p l.length ∈ Go.Shr.chain (par l) k) || decide (k ∈ Go.Shr.chain (par l) (atR l p l.length))
/-- What paths keep, by the ways. -/
def kp (ps : List (List UInt8)) (x : List UInt8) : Bool := ps.any fun p => x.isEmpty || insideB (inter x) p || insideB p (inter x)
theorem kp_inter {x a : List UInt8} (ha : a ≠ []) : (x.isEmpty || insideB (inter x) (inter a) || insideB (inter a) (inter x)) = true ↔ (a <+: x ∨ x <+: a) := by
  by_cases hx : x = []
  · subst hx; simp
  · have h1 : x.isEmpty = false := by simpa using hx
    rw [h1, Bool.false_or, Bool.or_eq_true, inside_inter hx ha, inside_inter ha hx]
theorem isA_succ (l : List Fl) (p : List UInt8) (n : Nat) (h : 0 < n) : isA l p (n + 1) = (isA l p n || ((ownS l n).data.toList == p)) := by
  unfold isA; rw [List.range_succ, List.any_append]; simp [h]
theorem inA_succ (l : List Fl) (p : List UInt8) (n k : Nat) (h : 0 < n) : inA l p (n + 1) k = (inA l p n k || (insideB (ownS l n).data.toList p && decide (k ∈ Go.Shr.chain (par l) n))) := by
  unfold inA; rw [List.range_succ, List.any_append]; simp [h]
theorem isA_one (l : List Fl) (p : List UInt8) : isA l p 1 = false := by simp [isA]
theorem inA_one (l : List Fl) (p : List UInt8) (k : Nat) : inA l p 1 k = false := by simp [inA]
theorem isA_iff {l : List Fl} {p : List UInt8} {n : Nat} : isA l p n = true ↔ ∃ i, 0 < i ∧ i < n ∧ (ownS l i).data.toList = p := by
  simp only [isA, List.any_eq_true, List.mem_range, Bool.and_eq_true, decide_eq_true_eq, beq_iff_eq]
  constructor
  · rintro ⟨i, h1, h2, h3⟩; exact ⟨i, h2, h1, h3⟩
  · rintro ⟨i, h1, h2, h3⟩; exact ⟨i, h2, h1, h3⟩
theorem atR_iff {l : List Fl} {p : List UInt8} : ∀ {n : Nat}, (0 < atR l p n ↔ isA l p n = true) ∧ (0 < atR l p n → atR l p n < n ∧ (ownS l (atR l p n)).data.toList = p)
  | 0 => by simp [atR, isA]
  | n + 1 => by
    have ih := atR_iff (l := l) (p := p) (n := n)
    rw [isA_iff] at ih ⊢
    unfold atR
    split
    · rename_i h
      exact ⟨⟨fun h0 => ⟨n, h0, by omega, h.2⟩, fun _ => h.1⟩, fun _ => ⟨by omega, h.2⟩⟩
    · rename_i h
      refine ⟨⟨fun h0 => ?_, fun ⟨i, h1, h2, h3⟩ => ih.1.2 ⟨i, h1, ?_, h3⟩⟩, fun h0 => ⟨by have := (ih.2 h0).1; omega, (ih.2 h0).2⟩⟩
      · obtain ⟨i, h1, h2, h3⟩ := ih.1.1 h0
        exact ⟨i, h1, by omega, h3⟩
      · by_cases e : i = n
        · subst e; exact absurd ⟨h1, h3⟩ h
        · omega
theorem Wy.keepP {l : List Fl} {W : Nat → List UInt8} (h : Wy l W) {ps : List (List UInt8)} (hp : ∀ p ∈ ps, isA l p l.length = true) {k : Nat} (hk : k < l.length) : keepP l ps k = kp ps (W k) := by
  unfold Go.Proofs.Ytibhcibcfommeaa.keepP kp
  rw [Bool.eq_iff_iff, List.any_eq_true, List.any_eq_true]
  refine exists_congr fun p => and_congr_right fun hm => ?_
  obtain ⟨a, ha, hal, rfl⟩ := isA_iff.1 (hp p hm)
  rw [h.own ha hal, kp_inter (h.ne ha hal)]
  simp only [inA, List.any_eq_true, List.mem_range, Bool.and_eq_true, decide_eq_true_eq]
  constructor
  · rintro ⟨i, hi, ⟨h0, h1⟩, h2⟩
    rw [h.own h0 hi, inside_inter (h.ne h0 hi) (h.ne ha hal)] at h1
    rw [h.chain i hi k hk] at h2
    exact List.prefix_or_prefix_of_prefix h1 h2
  · rintro (e | e)
    · have hk0 : 0 < k := by
        rcases Nat.eq_zero_or_pos k with rfl | h0
        · rw [h.root, List.prefix_nil] at e
          exact absurd e (h.ne ha hal)
        · exact h0
      exact ⟨k, hk, ⟨hk0, by rw [h.own hk0 hk, inside_inter (h.ne hk0 hk) (h.ne ha hal)]; exact e⟩, chain_self _ _⟩
    · exact ⟨a, hal, ⟨ha, by rw [h.own ha hal, inside_inter (h.ne ha hal) (h.ne ha hal)]; exact List.prefix_refl _⟩, by rw [h.chain a hal k hk]; exact e⟩
theorem Wy.keepR {l : List Fl} {W : Nat → List UInt8} (h : Wy l W) {ps : List (List UInt8)} (hp : ∀ p ∈ ps, isA l p l.length = true) {k : Nat} (hk : k < l.length) : keepR l ps k = kp ps (W k) := by
  unfold Go.Proofs.Ytibhcibcfommeaa.keepR kp
  rw [Bool.eq_iff_iff, List.any_eq_true, List.any_eq_true]
  refine exists_congr fun p => and_congr_right fun hm => ?_
  have h0 := (atR_iff (l := l) (p := p) (n := l.length)).1.2 (hp p hm)
  obtain ⟨h1, h2⟩ := (atR_iff (l := l) (p := p) (n := l.length)).2 h0
  generalize atR l p l.length = a at *
  obtain rfl : p = inter (W a) := by rw [← h2, h.own h0 h1]
  rw [kp_inter (h.ne h0 h1), Bool.or_eq_true, decide_eq_true_eq, decide_eq_true_eq, h.chain k hk _ h1, h.chain _ h1 k hk]
end Go.Proofs.Ytibhcibcfommeaa
