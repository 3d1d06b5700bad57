/-
  Plain: rows of numbers that a call owns, apart from one another; groups as the document reckons them.
-/
import Derived.Test.YtgpffcgkfgiodaaSch3
set_option linter.unusedSimpArgs false
namespace Go.Proofs.Ytgpffcgkfgiodaa
open Go.RowKit Go.Shr
/-- Neither row lies in the other's block. -/
def Apa (a b : Option Addr) : Prop := ∀ k, blk a k → ¬ blk b k
theorem Apa.symm {a b : Option Addr} (h : Apa a b) : Apa b a := fun k h1 h2 => h k h2 h1
theorem Apa.none (b : Option Addr) : Apa Option.none b := fun k ⟨_, _, h⟩ => by cases h
theorem Apa.none' (b : Option Addr) : Apa b Option.none := (Apa.none b).symm
/-- Numbers in an owned row. -/
structure Is (B : Nat) (w : World) (a : Option Addr) (n cap : Nat) (xs : List Int) : Prop where
  own : Own B w 3 1 a n cap (ints xs)
  lt : ∀ b, blk a b → b < w.heap.size
  len : n = xs.length
section
variable {B : Nat} {w w' w3 : World} {a a3 y : Option Addr} {n cap cap3 m capy : Nat} {xs ys : List Int}
theorem Is.nil (B : Nat) (w : World) : Is B w none 0 0 [] := ⟨Own.nil _ _ _ _, (fun b ⟨_, _, h⟩ => by cases h), rfl⟩
theorem Is.below (h : Is B w a n cap xs) (hb : Below w.heap.size w w') : Is B w' a n cap xs := ⟨h.own.below hb, fun b hk => Nat.lt_of_lt_of_le (h.lt b hk) hb.size, h.len⟩
theorem Is.push {x : Int} (h : Is B w a n cap xs) (ho : Own B w3 3 1 a3 (n + 1) cap3 (ints xs ++ [.int .i64 x])) : Is B w3 a3 (n + 1) cap3 (xs ++ [x]) :=
  ⟨by rw [ints_snoc]; exact ho, fun b hk => by
    obtain ⟨g, rfl, _, h2, _⟩ := ho.pos (by omega)
    obtain ⟨_, _, e⟩ := hk
    cases e; exact h2, by simp [h.len]⟩
theorem Is.keep (h : Is B w y m capy ys) (hap : Apa a y) (hc : Chg (fun k => blk a k ∧ B ≤ k ∧ 0 < cap) w w3) : Is B w3 y m capy ys :=
  ⟨h.own.chg hc (fun k hk h2 => hap k h2.1 hk), fun b hk => Nat.lt_of_lt_of_le (h.lt b hk) hc.size, h.len⟩
theorem Apa.keep (h : Is B w y m capy ys) (hap : Apa a y) (hn : ∀ k, blk a3 k → blk a k ∨ w.heap.size ≤ k) : Apa a3 y := fun k h1 h2 => by
  rcases hn k h1 with h3 | h3
  · exact hap k h3 h2
  · have := h.lt k h2; omega
theorem Is.set {g : Nat} (h : Is B w a n cap xs) (ha : a = some ⟨g, 0, none⟩) (j : Nat) (x : Int) : Is B (w.setCell ⟨g, j, none⟩ (.int .i64 x)) a n cap (xs.set j x) :=
  ⟨by have := h.own.stored ha j (.int .i64 x); rwa [show (ints xs).set j (.int .i64 x) = ints (xs.set j x) by simp [ints, List.map_set]] at this, fun b hk => by simpa using h.lt b hk, by simp [h.len]⟩
theorem Is.other {g : Nat} (h : Is B w y m capy ys) (hap : Apa a y) (ha : a = some ⟨g, 0, none⟩) (j : Nat) (u : Value) : Is B (w.setCell ⟨g, j, none⟩ u) y m capy ys :=
  ⟨h.own.setCell (p := ⟨g, j, none⟩) (fun k hk e => hap k (by subst ha; subst e; exact ⟨_, _, rfl⟩) hk) u, fun b hk => by simpa using h.lt b hk, h.len⟩
theorem Is.less (h : Is B w a n cap xs) {k : Nat} (hk : k ≤ n) : Is B w a k cap (xs.take k) :=
  ⟨by have := h.own.less hk; simpa [ints, List.map_take] using this, h.lt, by rw [List.length_take, ← h.len]; omega⟩
end
def lenV : Value → Nat | .slice _ n _ => n | _ => 0
/-- How deep each field is. -/
def depF : Nat → Stk → List Fl → List Int
  | _, _, [] => []
  | i, st, f :: l => ((popS st).length : Int) :: depF (i + 1) (nextS i f st) l
def dep (l : List Fl) : List Int := depF 0 [] l
theorem depF_snoc : ∀ (l : List Fl) (i : Nat) (st : Stk) (f : Fl), depF i st (l ++ [f]) = depF i st l ++ [((popS (stkF i st l)).length : Int)]
  | [], _, _, _ => rfl
  | x :: l, i, st, f => by simp only [List.cons_append, depF, stkF, depF_snoc l]
theorem depF_length : ∀ (l : List Fl) (i : Nat) (st : Stk), (depF i st l).length = l.length
  | [], _, _ => rfl
  | x :: l, i, st => by simp [depF, depF_length l]
theorem popS_idem' (st : Stk) : popS (popS st) = popS st := by
  induction st with
  | nil => rfl
  | cons g r ih =>
    by_cases h : g.2 ≤ 0
    · have e : popS (g :: r) = popS r := by simp [popS, h]
      rw [e, ih]
    · have e : popS (g :: r) = g :: r := by simp [popS, h]
      rw [e, e]
theorem nextS_cong (i : Int) (f : Fl) {st st2 : Stk} (h : popS st = popS st2) : nextS i f st = nextS i f st2 := by simp only [nextS, h]
def fsts (st : Stk) : List Int := st.reverse.map (·.1)
def snds (st : Stk) : List Int := st.reverse.map (·.2)
theorem fsts_cons (g : Int × Int) (r : Stk) : fsts (g :: r) = fsts r ++ [g.1] := by simp [fsts]
theorem snds_cons (g : Int × Int) (r : Stk) : snds (g :: r) = snds r ++ [g.2] := by simp [snds]
theorem fsts_len (st : Stk) : (fsts st).length = st.length := by simp [fsts]
theorem snds_len (st : Stk) : (snds st).length = st.length := by simp [snds]
theorem fsts_top (g : Int × Int) (r : Stk) : (ints (fsts (g :: r)))[r.length]? = some (.int .i64 g.1) := by
  rw [fsts_cons, ints_snoc, List.getElem?_append_right (by rw [ints_length, fsts_len]; exact Nat.le_refl _), ints_length, fsts_len, Nat.sub_self]; rfl
theorem snds_top (g : Int × Int) (r : Stk) : (ints (snds (g :: r)))[r.length]? = some (.int .i64 g.2) := by
  rw [snds_cons, ints_snoc, List.getElem?_append_right (by rw [ints_length, snds_len]; exact Nat.le_refl _), ints_length, snds_len, Nat.sub_self]; rfl
theorem fsts_take (g : Int × Int) (r : Stk) : (fsts (g :: r)).take r.length = fsts r := by
  rw [fsts_cons, ← fsts_len r, List.take_left]
theorem snds_take (g : Int × Int) (r : Stk) : (snds (g :: r)).take r.length = snds r := by
  rw [snds_cons, ← snds_len r, List.take_left]
theorem snds_set (g : Int × Int) (r : Stk) (x : Int) : (snds (g :: r)).set r.length x = snds ((g.1, x) :: r) := by
  rw [snds_cons, snds_cons, List.set_append_right _ _ (by rw [snds_len]; exact Nat.le_refl _), snds_len, Nat.sub_self]; rfl
/-- Open groups that stand for others. -/
structure Like (st st2 : Stk) : Prop where
  pop : popS st = popS st2
  nn : ∀ g ∈ st, 0 ≤ g.2 ∧ g.2 ≤ 1000
theorem Like.less {g : Int × Int} {r st2 : Stk} (h : Like (g :: r) st2) (h0 : g.2 = 0) : Like r st2 :=
  ⟨by rw [← h.pop]; simp [popS, h0], fun x hx => h.nn x (List.mem_cons_of_mem _ hx)⟩
/-- A field more. -/
def midS : Stk → Stk
  | [] => []
  | g :: r => (g.1, g.2 - 1) :: r
theorem nextS_mid {i : Int} {f : Fl} {st st2 : Stk} (h : Like st st2) (hp : popS st = st) : nextS i f st2 = if f.kind = 0 then (i, f.kids) :: midS st else midS st := by
  rw [← nextS_cong i f h.pop]
  unfold nextS
  rw [hp]
  cases st <;> rfl
theorem Like.mid {st st2 : Stk} (h : Like st st2) (hp : popS st = st) : ∀ g ∈ midS st, 0 ≤ g.2 ∧ g.2 ≤ 1000 := by
  cases st with
  | nil => intro g hg; cases hg
  | cons g r =>
    intro x hx
    rcases List.mem_cons.1 hx with rfl | hx
    · have h1 := h.nn g (List.mem_cons_self ..)
      have h2 : ¬ g.2 ≤ 0 := fun h0 => by
        have e : popS (g :: r) = popS r := by simp [popS, h0]
        rw [e] at hp
        have := popS_len r
        rw [hp] at this; simp at this; omega
      simp; omega
    · exact h.nn x (List.mem_cons_of_mem _ hx)
end Go.Proofs.Ytgpffcgkfgiodaa
