/-
  Plain: values, what is known of values. No program in sight.
-/
import Derived.Test.YtdgcgkmejejccaaBase2
namespace Go.Shr
open Go.RowKit
structure Vl where
  n : Int
  s : ByteArray
structure St where
  nulls : Int
  has : Bool
  mn : Vl
  mx : Vl
def Vl.zero : Vl := ⟨0, ByteArray.empty⟩
def Vl.v (x : Vl) : Value := .agg #[.int .i64 x.n, .string x.s]
def St.v (x : St) : Value := .agg #[.int .i64 x.nulls, .bool x.has, .int .i64 x.mn.n, .string x.mn.s, .int .i64 x.mx.n, .string x.mx.s]
def St.zero : St := ⟨0, false, Vl.zero, Vl.zero⟩
def cmpI (a b : Int) : Int := if a < b then -1 else if b < a then 1 else 0
def cmpL (a b : List UInt8) : Int := if Op.bytesLess a b then -1 else if a == b then 0 else 1
def cmpV (k : Int) (a b : Vl) : Int := if k = 4 then cmpL a.s.toList b.s.toList else cmpI a.n b.n
def lowV (k : Int) (a b : Vl) : Vl := if cmpV k b a < 0 then b else a
def highV (k : Int) (a b : Vl) : Vl := if 0 < cmpV k b a then b else a
def joinS (k : Int) (a b : St) : St :=
  if a.has then (if b.has then ⟨a.nulls + b.nulls, true, lowV k a.mn b.mn, highV k a.mx b.mx⟩ else ⟨a.nulls + b.nulls, true, a.mn, a.mx⟩)
  else ⟨a.nulls + b.nulls, b.has, b.mn, b.mx⟩
def oneS (x : Vl) : St := ⟨0, true, x, x⟩
def ofS (k : Int) (n : Int) (l : List Vl) : St := l.foldl (fun s x => joinS k s (oneS x)) ⟨n, false, Vl.zero, Vl.zero⟩

theorem bytesLess_irrefl : ∀ a, Op.bytesLess a a = false
  | [] => rfl
  | a :: x => by simp [Op.bytesLess, bytesLess_irrefl x]
theorem bytesLess_tri : ∀ a b, Op.bytesLess a b = false → Op.bytesLess b a = false → a = b
  | [], [], _, _ => rfl
  | [], b :: y, h, _ => by simp [Op.bytesLess] at h
  | a :: x, [], _, h => by simp [Op.bytesLess] at h
  | a :: x, b :: y, h1, h2 => by
    simp [Op.bytesLess] at h1 h2
    have hab : a = b := UInt8.le_antisymm h2.1 h1.1
    subst hab
    rw [bytesLess_tri x y (by simpa using h1.2) (by simpa using h2.2)]
theorem bytesLess_trans : ∀ a b c, Op.bytesLess a b = true → Op.bytesLess b c = true → Op.bytesLess a c = true
  | _, [], _, h, _ => by simp [Op.bytesLess] at h
  | _, _ :: _, [], _, h => by simp [Op.bytesLess] at h
  | [], b :: y, c :: z, _, _ => rfl
  | a :: x, b :: y, c :: z, h1, h2 => by
    simp [Op.bytesLess] at h1 h2 ⊢
    rcases h1 with h1 | ⟨rfl, h1⟩
    · rcases h2 with h2 | ⟨rfl, h2⟩
      · exact .inl (UInt8.lt_trans h1 h2)
      · exact .inl h1
    · rcases h2 with h2 | ⟨rfl, h2⟩
      · exact .inl h2
      · exact .inr ⟨rfl, bytesLess_trans x y z h1 h2⟩
theorem bytesLess_asymm (a b : List UInt8) (h : Op.bytesLess a b = true) : Op.bytesLess b a = false := by
  cases h2 : Op.bytesLess b a with
  | false => rfl
  | true => have := bytesLess_trans a b a h h2; rw [bytesLess_irrefl] at this; cases this

/-- The order of values of a kind, as one relation. -/
def lessV (k : Int) (a b : Vl) : Bool := if k = 4 then Op.bytesLess a.s.toList b.s.toList else decide (a.n < b.n)
theorem cmpV_neg (k : Int) (a b : Vl) : cmpV k a b < 0 ↔ lessV k a b = true := by
  unfold cmpV lessV cmpL cmpI
  split
  · split <;> simp_all
    split <;> decide
  · split
    · simp; omega
    · split <;> simp <;> omega
theorem cmpV_pos (k : Int) (a b : Vl) : 0 < cmpV k a b ↔ lessV k b a = true := by
  unfold cmpV lessV cmpL cmpI
  split
  · rename_i hk
    split
    · rename_i h; simp [bytesLess_asymm _ _ h]
    · rename_i h
      split
      · rename_i h2
        have : a.s.toList = b.s.toList := by simpa using h2
        rw [this, bytesLess_irrefl]; decide
      · rename_i h2
        have : Op.bytesLess b.s.toList a.s.toList = true := by
          cases h3 : Op.bytesLess b.s.toList a.s.toList with
          | true => rfl
          | false => exact absurd (bytesLess_tri _ _ (by simpa using h) h3) (by simpa using h2)
        rw [this]; decide
  · split
    · simp; omega
    · split <;> simp <;> omega
theorem lessV_irrefl (k : Int) (a : Vl) : lessV k a a = false := by
  unfold lessV; split
  · exact bytesLess_irrefl _
  · simp
theorem lessV_trans (k : Int) (a b c : Vl) (h1 : lessV k a b = true) (h2 : lessV k b c = true) : lessV k a c = true := by
  unfold lessV at *; split at h1
  · rw [if_pos (by assumption)] at h2 ⊢; exact bytesLess_trans _ _ _ h1 h2
  · rw [if_neg (by assumption)] at h2 ⊢; simp at *; omega
theorem toList_inj {a b : ByteArray} (h : a.toList = b.toList) : a = b := by
  rw [ByteArray.toList_eq, ByteArray.toList_eq] at h
  exact ByteArray.ext (Array.ext' h)
/-- A value of a kind. -/
def goodV (k : Int) (a : Vl) : Prop := if k = 4 then a.n = 0 else a.s = ByteArray.empty
theorem lessV_tri (k : Int) (a b : Vl) (ha : goodV k a) (hb : goodV k b) (h1 : lessV k a b = false) (h2 : lessV k b a = false) : a = b := by
  unfold lessV at h1 h2
  unfold goodV at ha hb
  obtain ⟨an, as⟩ := a
  obtain ⟨bn, bs⟩ := b
  by_cases hk : k = 4
  · simp only [hk, if_true] at *
    subst ha; subst hb
    rw [toList_inj (bytesLess_tri _ _ h1 h2)]
  · simp only [hk, if_false] at *
    subst ha; subst hb
    simp at h1 h2
    rw [show an = bn by omega]
theorem bytesLess_split (a b c : List UInt8) (h : Op.bytesLess c a = true) : Op.bytesLess c b = true ∨ Op.bytesLess b a = true := by
  cases h1 : Op.bytesLess c b with
  | true => exact .inl rfl
  | false =>
    right
    cases h2 : Op.bytesLess b c with
    | true => exact bytesLess_trans _ _ _ h2 h
    | false => rw [bytesLess_tri _ _ h2 h1]; exact h
theorem lessV_split (k : Int) (a b c : Vl) (h : lessV k c a = true) : lessV k c b = true ∨ lessV k b a = true := by
  unfold lessV at *; split at h
  · rename_i hk; simp only [hk, if_true]; exact bytesLess_split _ _ _ h
  · rename_i hk; simp only [hk, if_false]; simp at *; omega
theorem lowV_eq (k : Int) (a b : Vl) : lowV k a b = if lessV k b a = true then b else a := by
  unfold lowV; simp only [cmpV_neg]
theorem highV_eq (k : Int) (a b : Vl) : highV k a b = if lessV k a b = true then b else a := by
  unfold highV; simp only [cmpV_pos]
theorem lowV_assoc (k : Int) (a b c : Vl) : lowV k (lowV k a b) c = lowV k a (lowV k b c) := by
  simp only [lowV_eq]
  by_cases h1 : lessV k b a = true <;> by_cases h2 : lessV k c b = true <;> simp only [h1, h2, if_true, if_false, Bool.false_eq_true]
  · rw [if_pos (lessV_trans k c b a h2 h1)]
  · rw [if_neg]
    intro h3; rcases lessV_split k a b c h3 with h | h
    · exact h2 h
    · exact h1 h
theorem highV_assoc (k : Int) (a b c : Vl) : highV k (highV k a b) c = highV k a (highV k b c) := by
  simp only [highV_eq]
  by_cases h1 : lessV k a b = true <;> by_cases h2 : lessV k b c = true <;> simp only [h1, h2, if_true, if_false, Bool.false_eq_true]
  · rw [if_pos (lessV_trans k a b c h1 h2)]
  · rw [if_neg]
    intro h3; rcases lessV_split k c b a h3 with h | h
    · exact h1 h
    · exact h2 h
theorem lowV_comm (k : Int) (a b : Vl) (ha : goodV k a) (hb : goodV k b) : lowV k a b = lowV k b a := by
  simp only [lowV_eq]
  by_cases h1 : lessV k b a = true <;> by_cases h2 : lessV k a b = true <;> simp only [h1, h2, if_true, if_false, Bool.false_eq_true]
  · have := lessV_trans k a b a h2 h1; rw [lessV_irrefl] at this; cases this
  · exact lessV_tri k a b ha hb (by simpa using h2) (by simpa using h1)
theorem highV_comm (k : Int) (a b : Vl) (ha : goodV k a) (hb : goodV k b) : highV k a b = highV k b a := by
  simp only [highV_eq]
  by_cases h1 : lessV k b a = true <;> by_cases h2 : lessV k a b = true <;> simp only [h1, h2, if_true, if_false, Bool.false_eq_true]
  · have := lessV_trans k a b a h2 h1; rw [lessV_irrefl] at this; cases this
  · exact lessV_tri k a b ha hb (by simpa using h2) (by simpa using h1)
/-- What is known of values of a kind. -/
structure goodS (k : Int) (x : St) : Prop where
  yes : x.has = true → goodV k x.mn ∧ goodV k x.mx
  no : x.has = false → x.mn = Vl.zero ∧ x.mx = Vl.zero
theorem goodV_low {k : Int} {a b : Vl} (ha : goodV k a) (hb : goodV k b) : goodV k (lowV k a b) := by unfold lowV; split <;> assumption
theorem goodV_high {k : Int} {a b : Vl} (ha : goodV k a) (hb : goodV k b) : goodV k (highV k a b) := by unfold highV; split <;> assumption
theorem goodS_join {k : Int} {x y : St} (hx : goodS k x) (hy : goodS k y) : goodS k (joinS k x y) := by
  unfold joinS
  by_cases h1 : x.has = true
  · by_cases h2 : y.has = true
    · simp only [h1, h2, if_true]
      exact ⟨fun _ => ⟨goodV_low (hx.yes h1).1 (hy.yes h2).1, goodV_high (hx.yes h1).2 (hy.yes h2).2⟩, fun h => by cases h⟩
    · simp only [h1, h2, if_true, if_false, Bool.false_eq_true]
      exact ⟨fun _ => hx.yes h1, fun h => by cases h⟩
  · simp only [h1, if_false, Bool.false_eq_true]
    exact ⟨hy.yes, hy.no⟩
theorem joinS_assoc {k : Int} (x y z : St) : joinS k (joinS k x y) z = joinS k x (joinS k y z) := by
  unfold joinS
  by_cases h1 : x.has = true <;> by_cases h2 : y.has = true <;> by_cases h3 : z.has = true <;> simp [h1, h2, h3, Int.add_assoc, lowV_assoc, highV_assoc]
theorem joinS_comm {k : Int} {x y : St} (hx : goodS k x) (hy : goodS k y) : joinS k x y = joinS k y x := by
  unfold joinS
  by_cases h1 : x.has = true <;> by_cases h2 : y.has = true <;> simp only [h1, h2, if_true, if_false, Bool.false_eq_true, Int.add_comm x.nulls]
  · rw [lowV_comm k _ _ (hx.yes h1).1 (hy.yes h2).1, highV_comm k _ _ (hx.yes h1).2 (hy.yes h2).2]
  · have e1 := hx.no (by simpa using h1)
    have e2 := hy.no (by simpa using h2)
    rw [e1.1, e1.2, e2.1, e2.2]
def noS (n : Int) : St := ⟨n, false, Vl.zero, Vl.zero⟩
theorem goodS_no (k n : Int) : goodS k (noS n) := ⟨fun h => (by cases h), fun _ => ⟨rfl, rfl⟩⟩
theorem goodS_one {k : Int} {x : Vl} (h : goodV k x) : goodS k (oneS x) := ⟨fun _ => ⟨h, h⟩, fun h => by cases h⟩
theorem joinS_no {k : Int} {a : St} (ha : goodS k a) (n : Int) : joinS k a (noS n) = ⟨a.nulls + n, a.has, a.mn, a.mx⟩ := by
  unfold joinS
  by_cases h : a.has = true
  · simp [h, noS]
  · obtain ⟨h1, h2⟩ := ha.no (by simpa using h)
    simp [h, noS, h1, h2]
theorem no_joinS {k : Int} (a : St) (n : Int) : joinS k (noS n) a = ⟨n + a.nulls, a.has, a.mn, a.mx⟩ := by simp [joinS, noS]
theorem foldl_join (k : Int) (l : List Vl) : ∀ a b : St, l.foldl (fun s x => joinS k s (oneS x)) (joinS k a b) = joinS k a (l.foldl (fun s x => joinS k s (oneS x)) b) := by
  induction l with
  | nil => exact fun _ _ => rfl
  | cons x l ih => intro a b; rw [List.foldl_cons, joinS_assoc, ih, List.foldl_cons]
theorem goodS_of {k : Int} (n : Int) (l : List Vl) (hl : ∀ x ∈ l, goodV k x) : goodS k (ofS k n l) := by
  have : ∀ (l : List Vl) (a : St), (∀ x ∈ l, goodV k x) → goodS k a → goodS k (l.foldl (fun s x => joinS k s (oneS x)) a) := by
    intro l
    induction l with
    | nil => exact fun a _ h => h
    | cons x l ih => exact fun a hl ha => ih _ (fun y hy => hl y (List.mem_cons_of_mem _ hy)) (goodS_join ha (goodS_one (hl x (List.mem_cons_self ..))))
  exact this l _ hl (goodS_no k n)
theorem ofS_append {k : Int} (n1 n2 : Int) (l1 l2 : List Vl) (h1 : ∀ x ∈ l1, goodV k x) : ofS k (n1 + n2) (l1 ++ l2) = joinS k (ofS k n1 l1) (ofS k n2 l2) := by
  show (l1 ++ l2).foldl _ (noS (n1 + n2)) = _
  have e : noS (n1 + n2) = joinS k (noS n2) (noS n1) := by rw [no_joinS, Int.add_comm]; rfl
  rw [List.foldl_append, e, foldl_join, show l1.foldl (fun s x => joinS k s (oneS x)) (noS n1) = ofS k n1 l1 from rfl, joinS_comm (goodS_no k n2) (goodS_of n1 l1 h1), foldl_join]
  rfl
theorem ofS_snoc (k n : Int) (l : List Vl) (x : Vl) : ofS k n (l ++ [x]) = joinS k (ofS k n l) (oneS x) := by simp [ofS]
theorem ofS_nulls (k n : Int) (l : List Vl) : (ofS k n l).nulls = n := by
  have : ∀ (l : List Vl) (a : St), (l.foldl (fun s x => joinS k s (oneS x)) a).nulls = a.nulls := by
    intro l
    induction l with
    | nil => exact fun _ => rfl
    | cons x l ih => intro a; rw [List.foldl_cons, ih]; unfold joinS oneS; split <;> (try split) <;> simp
  exact this l _
theorem ofS_has (k n : Int) (l : List Vl) : (ofS k n l).has = !l.isEmpty := by
  cases l with
  | nil => rfl
  | cons x l =>
    have : ∀ (l : List Vl) (a : St), a.has = true → (l.foldl (fun s x => joinS k s (oneS x)) a).has = true := by
      intro l
      induction l with
      | nil => exact fun _ h => h
      | cons x l ih => intro a h; rw [List.foldl_cons]; refine ih _ ?_; simp [joinS, h, oneS]
    show (l.foldl _ (joinS k (noS n) (oneS x))).has = true
    exact this l _ rfl
/-- The least and the greatest of values are values, and no value lies beyond them. -/
theorem ofS_bounds (k n : Int) (l : List Vl) (hl : l ≠ []) : (ofS k n l).mn ∈ l ∧ (ofS k n l).mx ∈ l ∧ ∀ x ∈ l, lessV k x (ofS k n l).mn = false ∧ lessV k (ofS k n l).mx x = false := by
  have key : ∀ (l pre : List Vl) (a : St), pre ≠ [] → a.has = true → a.mn ∈ pre → a.mx ∈ pre → (∀ x ∈ pre, lessV k x a.mn = false ∧ lessV k a.mx x = false) →
      let b := l.foldl (fun s x => joinS k s (oneS x)) a; b.mn ∈ pre ++ l ∧ b.mx ∈ pre ++ l ∧ ∀ x ∈ pre ++ l, lessV k x b.mn = false ∧ lessV k b.mx x = false := by
    intro l
    induction l with
    | nil => intro pre a _ _ h1 h2 h3; simpa using ⟨h1, h2, h3⟩
    | cons y l ih =>
      intro pre a hp ha h1 h2 h3
      have := ih (pre ++ [y]) (joinS k a (oneS y)) (by simp) (by simp [joinS, ha, oneS]) ?_ ?_ ?_
      · simpa [List.append_assoc] using this
      · simp only [joinS, ha, oneS, if_true, lowV_eq]; split
        · simp
        · simp [h1]
      · simp only [joinS, ha, oneS, if_true, highV_eq]; split
        · simp
        · simp [h2]
      · intro x hx
        simp only [joinS, ha, oneS, if_true, lowV_eq, highV_eq]
        have hy := List.mem_append.1 hx
        constructor
        · split
          · rename_i hlt
            rcases hy with hy | hy
            · cases h4 : lessV k x y with
              | false => rfl
              | true => have := lessV_trans k x y a.mn h4 hlt; rw [(h3 x hy).1] at this; cases this
            · rw [List.mem_singleton] at hy; subst hy; exact lessV_irrefl k x
          · rename_i hlt
            rcases hy with hy | hy
            · exact (h3 x hy).1
            · rw [List.mem_singleton] at hy; subst hy; simpa using hlt
        · split
          · rename_i hlt
            rcases hy with hy | hy
            · cases h4 : lessV k y x with
              | false => rfl
              | true => have := lessV_trans k a.mx y x hlt h4; rw [(h3 x hy).2] at this; cases this
            · rw [List.mem_singleton] at hy; subst hy; exact lessV_irrefl k x
          · rename_i hlt
            rcases hy with hy | hy
            · exact (h3 x hy).2
            · rw [List.mem_singleton] at hy; subst hy; simpa using hlt
  obtain ⟨x, l', rfl⟩ := List.exists_cons_of_ne_nil hl
  have := key l' [x] (joinS k (noS n) (oneS x)) (by simp) rfl (by simp [joinS, noS, oneS]) (by simp [joinS, noS, oneS]) (by
    intro y hy; rw [List.mem_singleton] at hy; subst hy
    exact ⟨lessV_irrefl k y, lessV_irrefl k y⟩)
  exact this
end Go.Shr
