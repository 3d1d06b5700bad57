/-
  Plain: a place and its groups; paths.
-/
import Derived.Test.YtgpffcgkfgiodaaSchP
set_option linter.unusedSimpArgs false
namespace Go.Shr
/-- A place and its groups, outwards. -/
def chain (P : List Int) (i : Nat) : List Nat :=
  if h : 0 ≤ P.getD i (-1) ∧ (P.getD i (-1)).toNat < i then i :: chain P (P.getD i (-1)).toNat else [i]
termination_by i
decreasing_by exact h.2
def chainI (P : List Int) (k : Int) : List Nat := if k < 0 then [] else chain P k.toNat
theorem chainI_nat (P : List Int) (k : Nat) : chainI P (k : Int) = chain P k := by unfold chainI; rw [if_neg (by omega)]; simp
theorem chainI_neg (P : List Int) {k : Int} (h : k < 0) : chainI P k = [] := by unfold chainI; rw [if_pos h]
theorem chain_eq {P : List Int} (hb : ∀ (j : Nat) (h : j < P.length), -1 ≤ P[j] ∧ P[j] < (j : Int)) {i : Nat} (hi : i < P.length) : chain P i = i :: chainI P P[i] := by
  have h1 := hb i hi
  have e : P.getD i (-1) = P[i] := by simp [List.getD, hi]
  rw [chain, e]
  unfold chainI
  by_cases h : P[i] < 0
  · rw [dif_neg (by omega), if_pos h]
  · rw [dif_pos ⟨by omega, by omega⟩, if_neg h]
theorem chain_le (P : List Int) : ∀ (i x : Nat), x ∈ chain P i → x ≤ i := by
  intro i
  induction i using Nat.strongRecOn with
  | _ i ih =>
    intro x hx
    rw [chain] at hx
    split at hx
    · rename_i h
      rcases List.mem_cons.1 hx with rfl | hx
      · exact Nat.le_refl _
      · have := ih _ h.2 x hx; omega
    · simp at hx; omega
theorem chain_self (P : List Int) (i : Nat) : i ∈ chain P i := by rw [chain]; split <;> simp
theorem chain_sub (P : List Int) (a : Nat) : ∀ (i : Nat), a ∈ chain P i → ∃ A, chain P i = A ++ chain P a ∧ ∀ x ∈ A, a < x := by
  intro i
  induction i using Nat.strongRecOn with
  | _ i ih =>
    intro ha
    by_cases hai : a = i
    · subst hai; exact ⟨[], rfl, by simp⟩
    · have hlt := chain_le P i a ha
      rw [chain] at ha
      split at ha
      · rename_i h
        rcases List.mem_cons.1 ha with rfl | ha
        · exact absurd rfl hai
        · obtain ⟨A, e, hA⟩ := ih _ h.2 ha
          refine ⟨i :: A, ?_, ?_⟩
          · rw [chain, dif_pos h, e]; rfl
          · intro x hx
            rcases List.mem_cons.1 hx with rfl | hx
            · omega
            · exact hA x hx
      · simp at ha; exact absurd ha hai
theorem chain_lin {P : List Int} {i a b : Nat} (ha : a ∈ chain P i) (hb : b ∈ chain P i) : a ∈ chain P b ∨ b ∈ chain P a := by
  by_cases h : a ≤ b
  · obtain ⟨A, e, hA⟩ := chain_sub P b i hb
    rw [e] at ha
    rcases List.mem_append.1 ha with ha | ha
    · have := hA a ha; omega
    · exact .inl ha
  · obtain ⟨A, e, hA⟩ := chain_sub P a i ha
    rw [e] at hb
    rcases List.mem_append.1 hb with hb | hb
    · have := hA b hb; omega
    · exact .inr hb
/-- What one path keeps, as project and as the document tell it. -/
theorem keep_iff {P : List Int} {n a k : Nat} (h1 : 1 ≤ a) (h2 : a < n) (hk : k < n) : (∃ i, 1 ≤ i ∧ i < n ∧ a ∈ chain P i ∧ k ∈ chain P i) ↔ (a ∈ chain P k ∨ k ∈ chain P a) := by
  constructor
  · rintro ⟨i, _, _, h3, h4⟩
    exact chain_lin h3 h4
  · rintro (h | h)
    · have := chain_le P k a h
      exact ⟨k, by omega, hk, h, chain_self P k⟩
    · exact ⟨a, h1, h2, chain_self P a, h⟩
/-- Letters with dots between them. -/
def inter : List UInt8 → List UInt8
  | [] => []
  | [x] => [x]
  | x :: y :: r => x :: 46 :: inter (y :: r)
theorem inter_cons (x : UInt8) {l : List UInt8} (h : l ≠ []) : inter (x :: l) = x :: 46 :: inter l := by
  cases l with
  | nil => exact absurd rfl h
  | cons y r => rfl
theorem inter_len : ∀ (l : List UInt8), l ≠ [] → (inter l).length + 1 = 2 * l.length
  | [], h => absurd rfl h
  | [x], _ => rfl
  | x :: y :: r, _ => by
    have := inter_len (y :: r) (by simp)
    simp only [inter, List.length_cons] at *; omega
theorem inter_app : ∀ (a c : List UInt8), a ≠ [] → c ≠ [] → inter (a ++ c) = inter a ++ 46 :: inter c
  | [], c, h, _ => absurd rfl h
  | [x], c, _, hc => by rw [List.singleton_append, inter_cons x hc]; rfl
  | x :: y :: r, c, _, hc => by
    have := inter_app (y :: r) c (by simp) hc
    simp only [List.cons_append] at this ⊢
    rw [inter, this, inter]; simp
theorem inter_inj : ∀ (a b : List UInt8), inter a = inter b → a = b
  | [], [], _ => rfl
  | [], [x], h => by simp [inter] at h
  | [], x :: y :: r, h => by simp [inter] at h
  | [x], [], h => by simp [inter] at h
  | x :: y :: r, [], h => by simp [inter] at h
  | [x], [z], h => by simpa [inter] using h
  | [x], z :: w :: q, h => by simp [inter] at h
  | x :: y :: r, [z], h => by simp [inter] at h
  | x :: y :: r, z :: w :: q, h => by
    simp only [inter, List.cons.injEq, true_and] at h
    have := inter_inj (y :: r) (w :: q) h.2
    rw [h.1, this]
/-- project.inside. -/
def insideB (own path : List UInt8) : Bool := if path.length < own.length then (own.getD path.length 0 == 46) && (own.take path.length == path) else own == path
theorem inside_inter {a b : List UInt8} (ha : a ≠ []) (hb : b ≠ []) : insideB (inter a) (inter b) = true ↔ b <+: a := by
  have la := inter_len a ha
  have lb := inter_len b hb
  unfold insideB
  by_cases hl : (inter b).length < (inter a).length
  · rw [if_pos hl]
    have hk : b.length < a.length := by omega
    have ht : (a.take b.length) ≠ [] := by
      intro h
      have := congrArg List.length h
      have hbp : 0 < b.length := by cases b with | nil => exact absurd rfl hb | cons _ _ => simp
      rw [List.length_take, List.length_nil] at this; omega
    have hd : (a.drop b.length) ≠ [] := by
      intro h
      have := congrArg List.length h
      simp at this; omega
    have e := inter_app (a.take b.length) (a.drop b.length) ht hd
    rw [List.take_append_drop] at e
    have lt := inter_len _ ht
    have htl : (a.take b.length).length = b.length := by rw [List.length_take]; omega
    rw [htl] at lt
    have hlen : (inter (a.take b.length)).length = (inter b).length := by omega
    have e1 : (inter a).getD (inter b).length 0 = 46 := by
      rw [e, ← hlen]; simp [List.getD]
    have e2 : (inter a).take (inter b).length = inter (a.take b.length) := by
      rw [e, ← hlen, List.take_left]
    rw [e1, e2]
    simp only [beq_self_eq_true, Bool.true_and, beq_iff_eq]
    constructor
    · intro h
      have := inter_inj _ _ h
      rw [← this]; exact List.take_prefix _ _
    · intro h
      rw [List.prefix_iff_eq_take] at h
      rw [← h]
  · rw [if_neg hl]
    simp only [beq_iff_eq]
    constructor
    · intro h; rw [inter_inj _ _ h]; exact List.prefix_refl _
    · intro h
      have hlen := h.length_le
      have : b = a := h.eq_of_length (by omega)
      rw [this]
end Go.Shr
namespace Go.Shr
/-- The chain without the root. -/
def up (P : List Int) (i : Nat) : List Nat := (chain P i).filter (fun x => decide (0 < x))
def upI (P : List Int) (k : Int) : List Nat := if k ≤ 0 then [] else up P k.toNat
theorem upI_le (P : List Int) {k : Int} (h : k ≤ 0) : upI P k = [] := by unfold upI; rw [if_pos h]
theorem upI_nat (P : List Int) {k : Nat} (h : 0 < k) : upI P (k : Int) = up P k := by unfold upI; rw [if_neg (by omega)]; simp
theorem chain_zero (P : List Int) : chain P 0 = [0] := by rw [chain, dif_neg (by omega)]
theorem up_eq {P : List Int} (hb : ∀ (j : Nat) (h : j < P.length), -1 ≤ P[j] ∧ P[j] < (j : Int)) {i : Nat} (hi : i < P.length) (h0 : 0 < i) : up P i = i :: upI P P[i] := by
  unfold up
  rw [chain_eq hb hi, List.filter_cons, if_pos (by simpa using h0)]
  congr 1
  by_cases h1 : P[i] < 0
  · rw [chainI_neg P h1, upI_le P (by omega)]; rfl
  · obtain ⟨k, hk⟩ : ∃ k : Nat, P[i] = (k : Int) := ⟨P[i].toNat, by omega⟩
    rw [hk, chainI_nat]
    by_cases h2 : k = 0
    · subst h2; rw [chain_zero, upI_le P (by omega)]; rfl
    · rw [upI_nat P (by omega)]; rfl
theorem up_mem {P : List Int} {i x : Nat} : x ∈ up P i ↔ x ∈ chain P i ∧ 0 < x := by unfold up; simp
/-- A path's letters. -/
def pathL (b : Nat → UInt8) (P : List Int) (i : Nat) : List UInt8 := inter (((up P i).map b).reverse)
theorem up_ne {P : List Int} {i : Nat} (h : 0 < i) : up P i ≠ [] := by
  intro e
  have : i ∈ up P i := up_mem.2 ⟨chain_self P i, h⟩
  rw [e] at this; cases this
theorem up_head {P : List Int} {i : Nat} (h : 0 < i) : ∃ r, up P i = i :: r := by
  unfold up
  rw [chain]
  split
  · rw [List.filter_cons, if_pos (by simpa using h)]; exact ⟨_, rfl⟩
  · rw [List.filter_cons, if_pos (by simpa using h)]; exact ⟨_, rfl⟩
theorem inside_path {b : Nat → UInt8} {P : List Int} {n i a : Nat} (hinj : ∀ x y, 0 < x → x < n → 0 < y → y < n → b x = b y → x = y) (hi : 0 < i) (hin : i < n) (ha : 0 < a) (han : a < n) :
    insideB (pathL b P i) (pathL b P a) = true ↔ a ∈ chain P i := by
  unfold pathL
  rw [inside_inter (by simpa using up_ne hi) (by simpa using up_ne ha), List.reverse_prefix]
  constructor
  · rintro ⟨A, e⟩
    obtain ⟨r, hr⟩ := up_head (P := P) ha
    have hm : b a ∈ (up P i).map b := by rw [← e, hr]; simp
    obtain ⟨x, hx, hxe⟩ := List.mem_map.1 hm
    obtain ⟨h1, h2⟩ := up_mem.1 hx
    have := chain_le P i x h1
    have := hinj x a h2 (by omega) ha han hxe
    subst this
    exact h1
  · intro h
    obtain ⟨A, e, _⟩ := chain_sub P a i h
    refine ⟨((A.filter (fun x => decide (0 < x))).map b), ?_⟩
    unfold up
    rw [e, List.filter_append, List.map_append]
theorem path_inj {b : Nat → UInt8} {P : List Int} {n i a : Nat} (hinj : ∀ x y, 0 < x → x < n → 0 < y → y < n → b x = b y → x = y) (hi : 0 < i) (hin : i < n) (ha : 0 < a) (han : a < n) (h : pathL b P i = pathL b P a) : i = a := by
  unfold pathL at h
  have h1 := List.reverse_inj.1 (inter_inj _ _ h)
  obtain ⟨r, hr⟩ := up_head (P := P) hi
  obtain ⟨q, hq⟩ := up_head (P := P) ha
  rw [hr, hq, List.map_cons, List.map_cons] at h1
  injection h1 with h1 _
  exact hinj i a hi hin ha han h1
/-- As Path goes: name by name. -/
def joinS (nm : Nat → ByteArray) : List Nat → ByteArray → ByteArray
  | [], out => out
  | k :: r, out => joinS nm r (nm k ++ ⟨#[46]⟩ ++ out)
theorem joinS_inter {nm : Nat → ByteArray} {b : Nat → UInt8} : ∀ (c : List Nat) (out : ByteArray) (L : List UInt8), (∀ x ∈ c, (nm x).data.toList = [b x]) → L ≠ [] → out.data.toList = inter L → (joinS nm c out).data.toList = inter ((c.map b).reverse ++ L)
  | [], out, L, _, _, h => by simpa [joinS] using h
  | k :: r, out, L, hn, hL, h => by
    have h1 := hn k List.mem_cons_self
    rw [joinS, joinS_inter r _ (b k :: L) (fun x hx => hn x (List.mem_cons_of_mem _ hx)) (by simp) (by
      rw [inter_cons _ hL]
      simp [ByteArray.data_append, h1, h])]
    simp
end Go.Shr
