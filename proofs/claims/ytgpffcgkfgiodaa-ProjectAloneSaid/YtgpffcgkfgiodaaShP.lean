/-
  Plain: shapes of schemas: the fields of a shape, one behind the other; which fields are in which.
-/
import Derived.Test.YtgpffcgkfgiodaaSch3
import Derived.Test.YtgpffcgkfgiodaaTreeP
namespace Go.Proofs.Ytgpffcgkfgiodaa
open Go.RowKit Go.Shr
inductive Sh where
  | mk (name : ByteArray) (rep kind : Int) (kids : List Sh)
def Sh.name : Sh → ByteArray | .mk n _ _ _ => n
def Sh.rep : Sh → Int | .mk _ r _ _ => r
def Sh.kind : Sh → Int | .mk _ _ k _ => k
def Sh.kids : Sh → List Sh | .mk _ _ _ ks => ks
mutual
def Sh.size : Sh → Nat
  | .mk _ _ _ ks => 1 + shSizes ks
def shSizes : List Sh → Nat
  | [] => 0
  | s :: r => s.size + shSizes r
end
mutual
/-- A shape's fields. -/
def flat : Sh → List Fl
  | .mk nm r k ks => ⟨nm, r, k, ks.length⟩ :: flatL ks
def flatL : List Sh → List Fl
  | [] => []
  | s :: r => flat s ++ flatL r
end
mutual
/-- Each field's group. -/
def parsS (g : Int) (i : Nat) : Sh → List Int
  | .mk _ _ _ ks => g :: parsL i (i + 1) ks
def parsL (g : Int) (i : Nat) : List Sh → List Int
  | [] => []
  | s :: r => parsS g i s ++ parsL g (i + s.size) r
end
/-- The places of shapes that stand one behind the other. -/
def offs : Nat → List Sh → List Int
  | _, [] => []
  | i, s :: r => (i : Int) :: offs (i + s.size) r
mutual
/-- A shape as schemas have them. -/
def GoodS : Sh → Prop
  | .mk _ r k ks => 0 ≤ r ∧ r ≤ 2 ∧ 0 ≤ k ∧ k ≤ 4 ∧ (k ≠ 0 → ks = []) ∧ (k = 0 → ks ≠ []) ∧ GoodL ks
def GoodL : List Sh → Prop
  | [] => True
  | s :: r => GoodS s ∧ GoodL r
end
theorem GoodL_append : ∀ (a b : List Sh), GoodL (a ++ b) ↔ GoodL a ∧ GoodL b
  | [], b => by simp [GoodL]
  | s :: a, b => by simp [GoodL, GoodL_append a b, and_assoc]
theorem GoodL_mem : ∀ {ks : List Sh} {s : Sh}, GoodL ks → s ∈ ks → GoodS s
  | x :: ks, s, h, hm => by
    simp only [GoodL] at h
    rcases List.mem_cons.1 hm with rfl | hm
    · exact h.1
    · exact GoodL_mem h.2 hm
theorem flatL_append : ∀ (a b : List Sh), flatL (a ++ b) = flatL a ++ flatL b
  | [], b => by simp [flatL]
  | s :: a, b => by simp [flatL, flatL_append a b]
theorem shSizes_append : ∀ (a b : List Sh), shSizes (a ++ b) = shSizes a + shSizes b
  | [], b => by simp [shSizes]
  | s :: a, b => by simp [shSizes, shSizes_append a b]; omega
mutual
theorem flat_length : ∀ s : Sh, (flat s).length = s.size
  | .mk _ _ _ ks => by simp only [flat, List.length_cons, Sh.size, flatL_length ks]; omega
theorem flatL_length : ∀ ks : List Sh, (flatL ks).length = shSizes ks
  | [] => rfl
  | s :: r => by simp only [flatL, List.length_append, shSizes, flat_length s, flatL_length r]
end
mutual
theorem parsS_length : ∀ (s : Sh) (g : Int) (i : Nat), (parsS g i s).length = s.size
  | .mk _ _ _ ks, g, i => by simp only [parsS, List.length_cons, Sh.size, parsL_length ks]; omega
theorem parsL_length : ∀ (ks : List Sh) (g : Int) (i : Nat), (parsL g i ks).length = shSizes ks
  | [], _, _ => rfl
  | s :: r, g, i => by simp only [parsL, List.length_append, shSizes, parsS_length s, parsL_length r]
end
mutual
theorem parsS_mem : ∀ (s : Sh) (g : Int) (i : Nat) (x : Int), x ∈ parsS g i s → x = g ∨ ((i : Int) ≤ x ∧ x < (i : Int) + s.size)
  | .mk _ _ _ ks, g, i, x, h => by
    simp only [parsS, List.mem_cons] at h
    rcases h with h | h
    · exact .inl h
    · have := parsL_mem ks i (i + 1) x h
      simp only [Sh.size]; omega
theorem parsL_mem : ∀ (ks : List Sh) (g : Int) (i : Nat) (x : Int), x ∈ parsL g i ks → x = g ∨ ((i : Int) ≤ x ∧ x < (i : Int) + shSizes ks)
  | [], _, _, _, h => by simp [parsL] at h
  | s :: r, g, i, x, h => by
    simp only [parsL, List.mem_append] at h
    rcases h with h | h
    · have := parsS_mem s g i x h; simp only [shSizes]; omega
    · have := parsL_mem r g (i + s.size) x h; simp only [shSizes]; omega
end
theorem popS_idem (st : Stk) : popS (popS st) = popS st := by
  induction st with
  | nil => rfl
  | cons g r ih =>
    by_cases h : g.2 ≤ 0
    · have e : popS (g :: r) = popS r := by simp [popS, h]
      rw [e, ih]
    · have e : popS (g :: r) = g :: r := by simp [popS, h]
      rw [e, e]
theorem parF_cong (i : Nat) {st st2 : Stk} (l : List Fl) (h : popS st = popS st2) : parF i st l = parF i st2 l := by
  cases l with
  | nil => rfl
  | cons f l => simp only [parF, parS, nextS, h]
mutual
theorem par_flat : ∀ (s : Sh) (_ : GoodS s) (i : Nat) (g c : Int) (st : Stk) (rest : List Fl), 0 < c → parF i ((g, c) :: st) (flat s ++ rest) = parsS g i s ++ parF (i + s.size) ((g, c - 1) :: st) rest
  | .mk nm r k ks, hg, i, g, c, st, rest, hc => by
    simp only [GoodS] at hg
    obtain ⟨_, _, _, _, h1, h2, h3⟩ := hg
    have hp : popS ((g, c) :: st) = (g, c) :: st := by simp [popS]; omega
    simp only [flat, List.cons_append, parF, parS, nextS, hp, parsS, Sh.size]
    congr 1
    by_cases hk : k = 0
    · rw [if_pos hk, parL_flat ks h3 (i + 1) i ks.length ((g, c - 1) :: st) rest (Int.le_refl _)]
      congr 1
      rw [Nat.add_assoc]
      exact parF_cong _ _ (by simp [popS])
    · rw [if_neg hk, h1 hk]
      simp only [flatL, parsL, shSizes, List.nil_append]
theorem parL_flat : ∀ (ks : List Sh) (_ : GoodL ks) (i : Nat) (g c : Int) (st : Stk) (rest : List Fl), (ks.length : Int) ≤ c → parF i ((g, c) :: st) (flatL ks ++ rest) = parsL g i ks ++ parF (i + shSizes ks) ((g, c - ks.length) :: st) rest
  | [], _, i, g, c, st, rest, _ => by simp [flatL, parsL, shSizes]
  | s :: r, hg, i, g, c, st, rest, hc => by
    simp only [GoodL] at hg
    simp only [List.length_cons] at hc ⊢
    simp only [flatL, List.append_assoc, parsL, shSizes]
    rw [par_flat s hg.1 i g c st _ (by omega), parL_flat r hg.2 (i + s.size) g (c - 1) st rest (by omega)]
    rw [Nat.add_assoc]
    congr 4
    congr 1
    push_cast
    omega
end
theorem par_root (s : Sh) (hg : GoodS s) (hk : s.kind = 0) : par (flat s) = parsS (-1) 0 s := by
  obtain ⟨nm, r, k, ks⟩ := s
  simp only [Sh.kind] at hk
  subst hk
  simp only [GoodS] at hg
  have h := parL_flat ks hg.2.2.2.2.2.2 1 0 ks.length [] [] (Int.le_refl _)
  simp only [List.append_nil] at h
  simp only [par, flat, parF, parS, nextS, popS, parsS, if_true, Nat.zero_add]
  congr 1
  rw [show ((0 : Nat) : Int) = 0 from rfl, h]
  simp [parF]
/-- The places from one on at which v stands. -/
def kf : Nat → List Int → Int → List Int
  | _, [], _ => []
  | o, x :: p, v => if x = v then (o : Int) :: kf (o + 1) p v else kf (o + 1) p v
theorem kf_append : ∀ (a b : List Int) (o : Nat) (v : Int), kf o (a ++ b) v = kf o a v ++ kf (o + a.length) b v
  | [], b, o, v => by simp [kf]
  | x :: a, b, o, v => by
    simp only [List.cons_append, kf, kf_append a b, List.length_cons]
    rw [show o + 1 + a.length = o + (a.length + 1) by omega]
    split <;> simp
theorem kf_none : ∀ (p : List Int) (o : Nat) (v : Int), (∀ x ∈ p, x ≠ v) → kf o p v = []
  | [], _, _, _ => rfl
  | x :: p, o, v, h => by
    rw [kf, if_neg (h x (List.mem_cons_self ..))]
    exact kf_none p _ v fun y hy => h y (List.mem_cons_of_mem _ hy)
theorem kidsOf_kf (P : List Int) (v : Int) : kidsOf P v = kf 0 P v := by
  suffices h : ∀ n (P : List Int), P.length = n → kidsOf P v = kf 0 P v from h _ P rfl
  intro n
  induction n with
  | zero => intro P h; rw [List.eq_nil_of_length_eq_zero h]; rfl
  | succ n ih =>
    intro P h
    have hne : P ≠ [] := by intro e; rw [e] at h; simp at h
    obtain ⟨Q, x, rfl⟩ : ∃ Q x, P = Q ++ [x] := ⟨P.dropLast, P.getLast hne, (List.dropLast_concat_getLast hne).symm⟩
    have hl : Q.length = n := by simpa using h
    rw [kidsOf_snoc, ih Q hl, kf_append, kf, kf, Nat.zero_add]
theorem kf_pars : ∀ (ks : List Sh) (g : Int) (i : Nat), g < i → kf i (parsL g i ks) g = offs i ks
  | [], _, _, _ => rfl
  | .mk nm r k q :: ks, g, i, h => by
    simp only [parsL, offs]
    rw [kf_append, parsS_length, kf_pars ks g _ (by omega)]
    simp only [parsS, kf, if_true]
    rw [kf_none]
    · rfl
    · intro x hx e
      have := parsL_mem q i (i + 1) x hx
      omega
mutual
/-- At a place of a row of fields there is a shape. -/
def Ix (l : List Fl) (K : Int → List Int) : Nat → Sh → Prop
  | i, .mk nm r k ks => l[i]? = some ⟨nm, r, k, ks.length⟩ ∧ K i = offs (i + 1) ks ∧ IxL l K (i + 1) ks
def IxL (l : List Fl) (K : Int → List Int) : Nat → List Sh → Prop
  | _, [] => True
  | i, s :: r => Ix l K i s ∧ IxL l K (i + s.size) r
end
mutual
theorem ix_seg : ∀ (s : Sh) (g : Int) (i : Nat) (A B : List Int) (C D : List Fl), g < i → A.length = i → C.length = i → (∀ x ∈ A, x < (i : Int)) → (∀ x ∈ B, x < (i : Int) ∨ (i : Int) + s.size ≤ x) → Ix (C ++ flat s ++ D) (fun v => kf 0 (A ++ parsS g i s ++ B) v) i s
  | .mk nm r k ks, g, i, A, B, C, D, hg, hA, hC, h1, h2 => by
    simp only [Sh.size] at h2
    simp only [Ix]
    refine ⟨?_, ?_, ?_⟩
    · rw [List.append_assoc, List.getElem?_append_right (by omega), hC, Nat.sub_self]
      simp [flat]
    · rw [kf_append, kf_append, kf_none A _ _ (fun x hx => by have := h1 x hx; omega), kf_none B _ _ (fun x hx => by have := h2 x hx; omega), Nat.zero_add, hA]
      simp only [parsS, kf, List.nil_append, List.append_nil]
      rw [if_neg (by omega), kf_pars ks i (i + 1) (by omega)]
    · have e1 : A ++ parsS g i (.mk nm r k ks) ++ B = (A ++ [g]) ++ parsL i (i + 1) ks ++ B := by simp [parsS]
      have e2 : C ++ flat (.mk nm r k ks) ++ D = (C ++ [⟨nm, r, k, ks.length⟩]) ++ flatL ks ++ D := by simp [flat]
      rw [e1, e2]
      refine ixL_seg ks i (i + 1) _ B _ D (by omega) (by simp [hA]) (by simp [hC]) (fun x hx => ?_) (fun x hx => ?_)
      · rcases List.mem_append.1 hx with hx | hx
        · have := h1 x hx; omega
        · have : x = g := by simpa using hx
          omega
      · have := h2 x hx; omega
theorem ixL_seg : ∀ (ks : List Sh) (g : Int) (i : Nat) (A B : List Int) (C D : List Fl), g < i → A.length = i → C.length = i → (∀ x ∈ A, x < (i : Int)) → (∀ x ∈ B, x < (i : Int) ∨ (i : Int) + shSizes ks ≤ x) → IxL (C ++ flatL ks ++ D) (fun v => kf 0 (A ++ parsL g i ks ++ B) v) i ks
  | [], _, _, _, _, _, _, _, _, _, _, _ => by simp only [IxL]
  | s :: r, g, i, A, B, C, D, hg, hA, hC, h1, h2 => by
    simp only [shSizes] at h2
    simp only [IxL]
    constructor
    · have e1 : A ++ parsL g i (s :: r) ++ B = A ++ parsS g i s ++ (parsL g (i + s.size) r ++ B) := by simp [parsL]
      have e2 : C ++ flatL (s :: r) ++ D = C ++ flat s ++ (flatL r ++ D) := by simp [flatL]
      rw [e1, e2]
      refine ix_seg s g i A _ C _ hg hA hC h1 (fun x hx => ?_)
      rcases List.mem_append.1 hx with hx | hx
      · have := parsL_mem r g _ x hx; omega
      · have := h2 x hx; omega
    · have e1 : A ++ parsL g i (s :: r) ++ B = (A ++ parsS g i s) ++ parsL g (i + s.size) r ++ B := by simp [parsL]
      have e2 : C ++ flatL (s :: r) ++ D = (C ++ flat s) ++ flatL r ++ D := by simp [flatL]
      rw [e1, e2]
      refine ixL_seg r g (i + s.size) _ B _ D (by omega) (by simp [hA, parsS_length]) (by simp [hC, flat_length]) (fun x hx => ?_) (fun x hx => ?_)
      · rcases List.mem_append.1 hx with hx | hx
        · have := h1 x hx; omega
        · have := parsS_mem s g i x hx; omega
      · have := h2 x hx; omega
end
/-- Of a shape's fields: what is in what. -/
theorem ix_root (s : Sh) (hg : GoodS s) (hk : s.kind = 0) : Ix (flat s) (fun v => kidsOf (par (flat s)) v) 0 s := by
  have h := ix_seg s (-1) 0 [] [] [] [] (by omega) rfl rfl (by simp) (by simp)
  simp only [List.nil_append, List.append_nil] at h
  have e : (fun v => kidsOf (par (flat s)) v) = fun v => kf 0 (parsS (-1) 0 s) v := by
    funext v; rw [kidsOf_kf, par_root s hg hk]
  rw [e]; exact h
end Go.Proofs.Ytgpffcgkfgiodaa
