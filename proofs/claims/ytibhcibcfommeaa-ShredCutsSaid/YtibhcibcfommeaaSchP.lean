/-
 Plain: fields, each field's group. No program in sight.
-/
import Derived.Test.YtibhcibcfommeaaRegJ
namespace Go.Shr
open Go.RowKit
structure Fl where
 name : ByteArray
 rep : Int
 kind : Int
 kids : Int
def Fl.v (x : Fl) : Value := .agg #[.string x.name, .int .i64 x.rep, .int .i64 x.kind, .int .i64 x.kids]
/-- Fields as cells. -/
def fls (l : List Fl) : List Value := l.flatMap fun x => [.string x.name, .int .i64 x.rep, .int .i64 x.kind, .int .i64 x.kids]
theorem fls_length (l : List Fl) : (fls l).length = l.length * 4 := by
 induction l with
 | nil => rfl
 | cons x l ih => simp [fls] at ih ⊢; omega
theorem fls_get : ∀ (l : List Fl) (k : Nat) (h : k < l.length), (fls l)[k * 4]? = some (.string l[k].name) ∧ (fls l)[k * 4 + 1]? = some (.int .i64 l[k].rep) ∧ (fls l)[k * 4 + 2]? = some (.int .i64 l[k].kind) ∧ (fls l)[k * 4 + 3]? = some (.int .i64 l[k].kids)
 | x :: l, 0, _ => by simp [fls]
 | x :: l, k + 1, h => by
  have := fls_get l k (by simpa using h)
  rw [show (k + 1) * 4 = k * 4 + 1 + 1 + 1 + 1 by omega]
  simpa [fls] using this
/-- A group that is open: its place, how many fields it lacks; the innermost one ahead. -/
abbrev Stk := List (Int × Int)
def popS : Stk → Stk
 | [] => []
 | g :: r => if g.2 ≤ 0 then popS r else g :: r
/-- A field's group. -/
def parS (st : Stk) : Int := match popS st with | [] => -1 | g :: _ => g.1
/-- The open groups behind a field. -/
def nextS (i : Int) (f : Fl) (st : Stk) : Stk :=
 let st2 := match popS st with | [] => [] | g :: r => (g.1, g.2 - 1) :: r
 if f.kind = 0 then (i, f.kids) :: st2 else st2
/-- The fields' groups, from the open groups ahead. -/
def parF : Nat → Stk → List Fl → List Int
 | _, _, [] => []
 | i, st, f :: l => parS st :: parF (i + 1) (nextS i f st) l
def par (l : List Fl) : List Int := parF 0 [] l
def stkF : Nat → Stk → List Fl → Stk
 | _, st, [] => st
 | i, st, f :: l => stkF (i + 1) (nextS i f st) l
theorem parF_snoc : ∀ (l : List Fl) (i : Nat) (st : Stk) (f : Fl), parF i st (l ++ [f]) = parF i st l ++ [parS (stkF i st l)]
 | [], _, _, _ => rfl
 | x :: l, i, st, f => by simp only [List.cons_append, parF, stkF, parF_snoc l]
theorem stkF_snoc : ∀ (l : List Fl) (i : Nat) (st : Stk) (f : Fl), stkF i st (l ++ [f]) = nextS ((i + l.length : Nat) : Int) f (stkF i st l)
 | [], i, st, f => by simp [stkF]
 | x :: l, i, st, f => by
  simp only [List.cons_append, stkF, stkF_snoc l, List.length_cons]
  congr 1; omega
theorem parF_length : ∀ (l : List Fl) (i : Nat) (st : Stk), (parF i st l).length = l.length
 | [], _, _ => rfl
 | x :: l, i, st => by simp [parF, parF_length l]
theorem popS_len (st : Stk) : (popS st).length ≤ st.length := by
 induction st with
 | nil => exact Nat.le_refl _
 | cons g r ih => unfold popS; split <;> simp <;> omega
theorem popS_sub (st : Stk) : ∀ g ∈ popS st, g ∈ st := by
 induction st with
 | nil => exact fun _ h => h
 | cons x r ih => intro g hg; unfold popS at hg; split at hg; exact List.mem_cons_of_mem _ (ih g hg); exact hg
theorem nextS_le {K : Int} {i : Int} {f : Fl} {st : Stk} (hK : 0 ≤ K) (hf : f.kids ≤ K) (h : ∀ g ∈ st, g.2 ≤ K) : ∀ g ∈ nextS i f st, g.2 ≤ K := by
 have h2 : ∀ g ∈ (match popS st with | [] => [] | g :: r => (g.1, g.2 - 1) :: r : Stk), g.2 ≤ K := by
  intro g hg
  cases hp : popS st with
  | nil => rw [hp] at hg; cases hg
  | cons x r =>
   rw [hp] at hg
   have hsub := popS_sub st
   rw [hp] at hsub
   rcases List.mem_cons.1 hg with rfl | hg
   ·have := h x (hsub x (List.mem_cons_self ..)); simp; omega
   ·exact h g (hsub g (List.mem_cons_of_mem _ hg))
 intro g hg
 unfold nextS at hg
 dsimp only at hg
 split at hg
 ·rcases List.mem_cons.1 hg with rfl | hg
  ·exact hf
  ·exact h2 g hg
 ·exact h2 g hg
theorem stkF_le {K : Int} (hK : 0 ≤ K) : ∀ (l : List Fl) (i : Nat) (st : Stk), (∀ x ∈ l, x.kids ≤ K) → (∀ g ∈ st, g.2 ≤ K) → ∀ g ∈ stkF i st l, g.2 ≤ K
 | [], _, _, _, h => h
 | x :: l, i, st, hl, h => stkF_le hK l (i + 1) _ (fun y hy => hl y (List.mem_cons_of_mem _ hy)) (nextS_le hK (hl x (List.mem_cons_self ..)) h)
theorem parS_bd {st : Stk} {i : Int} (h : ∀ g ∈ st, 0 ≤ g.1 ∧ g.1 < i) (hi : 0 ≤ i) : -1 ≤ parS st ∧ parS st < i := by
 unfold parS
 cases hp : popS st with
 | nil => dsimp only; omega
 | cons g r =>
  have := h g (popS_sub st g (by rw [hp]; exact List.mem_cons_self ..))
  dsimp only; omega
theorem nextS_bd {st : Stk} {i : Int} {f : Fl} (h : ∀ g ∈ st, 0 ≤ g.1 ∧ g.1 < i) (hi : 0 ≤ i) : ∀ g ∈ nextS i f st, 0 ≤ g.1 ∧ g.1 < i + 1 := by
 have h2 : ∀ g ∈ (match popS st with | [] => [] | g :: r => (g.1, g.2 - 1) :: r : Stk), 0 ≤ g.1 ∧ g.1 < i + 1 := by
  intro g hg
  cases hp : popS st with
  | nil => rw [hp] at hg; cases hg
  | cons x r =>
   rw [hp] at hg
   have hsub := popS_sub st
   rw [hp] at hsub
   rcases List.mem_cons.1 hg with rfl | hg
   ·have := h x (hsub x (List.mem_cons_self ..)); exact ⟨this.1, by have := this.2; simp; omega⟩
   ·have := h g (hsub g (List.mem_cons_of_mem _ hg)); omega
 intro g hg
 unfold nextS at hg
 dsimp only at hg
 split at hg
 ·rcases List.mem_cons.1 hg with rfl | hg
  ·simp; omega
  ·exact h2 g hg
 ·exact h2 g hg
theorem parF_bd : ∀ (l : List Fl) (i : Nat) (st : Stk), (∀ g ∈ st, 0 ≤ g.1 ∧ g.1 < (i : Int)) → ∀ (j : Nat) (h : j < (parF i st l).length), -1 ≤ (parF i st l)[j] ∧ (parF i st l)[j] < ((i + j : Nat) : Int)
 | [], _, _, _, j, h => by simp [parF] at h
 | f :: l, i, st, hst, 0, h => by simpa [parF] using parS_bd hst (by omega)
 | f :: l, i, st, hst, j + 1, h => by
  have := parF_bd l (i + 1) (nextS i f st) (by have := nextS_bd (f := f) hst (by omega); intro g hg; have := this g hg; omega) j (by simpa [parF] using h)
  simp only [parF, List.getElem_cons_succ]
  omega
theorem par_bd (l : List Fl) (j : Nat) (h : j < (par l).length) : -1 ≤ (par l)[j] ∧ (par l)[j] < (j : Int) := by
 have := parF_bd l 0 [] (by simp) j h
 rw [Nat.zero_add] at this
 exact this
theorem par_length (l : List Fl) : (par l).length = l.length := parF_length l 0 []
/-- Open groups as cells. -/
def stc (st : Stk) : List Value := st.reverse.flatMap fun g => [.int .i64 g.1, .int .i64 g.2]
theorem stc_cons (g : Int × Int) (st : Stk) : stc (g :: st) = stc st ++ [.int .i64 g.1, .int .i64 g.2] := by simp [stc]
theorem stc_length (st : Stk) : (stc st).length = st.length * 2 := by
 induction st with
 | nil => rfl
 | cons g st ih => rw [stc_cons]; simp [ih]; omega
theorem stc_top (g : Int × Int) (st : Stk) : (stc (g :: st))[st.length * 2]? = some (.int .i64 g.1) ∧ (stc (g :: st))[st.length * 2 + 1]? = some (.int .i64 g.2) := by
 rw [stc_cons]
 have := stc_length st
 constructor
 ·rw [List.getElem?_append_right (by omega), this, Nat.sub_self]; rfl
 ·rw [List.getElem?_append_right (by omega), this, show st.length * 2 + 1 - st.length * 2 = 1 by omega]; rfl
theorem stc_get : ∀ (st : Stk) (k : Nat), k < st.length → ∃ x y, (stc st)[k * 2]? = some (Value.int .i64 x) ∧ (stc st)[k * 2 + 1]? = some (Value.int .i64 y)
 | [], _, h => absurd h (Nat.not_lt_zero _)
 | g :: st, k, h => by
  have hl := stc_length st
  by_cases hk : k < st.length
  ·obtain ⟨x, y, h1, h2⟩ := stc_get st k hk
   refine ⟨x, y, ?_, ?_⟩
   ·rw [stc_cons, List.getElem?_append_left (by omega)]; exact h1
   ·rw [stc_cons, List.getElem?_append_left (by omega)]; exact h2
  ·obtain rfl : k = st.length := by simp at h; omega
   exact ⟨_, _, stc_top g st⟩
theorem stc_set (g : Int × Int) (st : Stk) (n : Int) : (stc (g :: st)).set (st.length * 2 + 1) (.int .i64 n) = stc ((g.1, n) :: st) := by
 rw [stc_cons, stc_cons]
 have := stc_length st
 rw [List.set_append_right _ _ (by omega), this, show st.length * 2 + 1 - st.length * 2 = 1 by omega]; rfl
theorem stc_take (g : Int × Int) (st : Stk) : (stc (g :: st)).take (st.length * 2) = stc st := by
 rw [stc_cons, ← stc_length st, List.take_left]
/-- x[:h] of an owned row. -/
theorem Own.upto {P : Program} {B : Nat} {w : World} {t e : TypeId} {i : TypeInfo} {size n cap : Nat} {a : Option Addr} {xs : List Value} (ht : P.underlying t = some (.slice e)) (hi : P.info? e = some i) (hsz : i.size = size) (h : Own B w e size a n cap xs) (k : IntKind) (hh : Int) (h0 : 0 ≤ hh) (h1 : hh ≤ n) :
  (∀ w', (Instr.slice t (.slice a n cap) none (some (.int k hh)) none).run P w' = .ok (.slice a hh.toNat cap) w') ∧ Own B w e size a hh.toNat cap (xs.take (hh.toNat * size)) := by
 refine ⟨fun w' => ?_, h.less (by omega)⟩
 rw [run_slice_hi ht hi hsz a n cap k hh h0 (by have := h.le; omega)]
 congr 2
 rcases h.row with h2 | ⟨g, cur, rfl, _⟩
 ·rw [if_pos h2]
 ·split
  ·rfl
  ·simp [Addr.add]
end Go.Shr
