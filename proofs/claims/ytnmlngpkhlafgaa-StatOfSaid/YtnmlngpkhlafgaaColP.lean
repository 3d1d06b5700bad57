/-
  Plain: cells of a column, some of which are not there. No program in sight.
-/
import Derived.Test.YtnmlngpkhlafgaaStatP
namespace Go.Shr
open Go.RowKit
def filtB : List Vl → List Bool → List Vl
  | [], _ => []
  | x :: l, bs => (if bs.headD true then [x] else []) ++ filtB l bs.tail
def lvB : List Vl → List Bool → List Int
  | [], _ => []
  | _ :: l, bs => (if bs.headD true then 1 else 0) :: lvB l bs.tail
theorem filtB_append (m : List Vl) : ∀ (l : List Vl) (bs : List Bool), filtB (l ++ m) bs = filtB l bs ++ filtB m (bs.drop l.length)
  | [], _ => by simp [filtB]
  | x :: l, bs => by
    simp only [List.cons_append, filtB, List.length_cons, List.append_assoc, filtB_append m l bs.tail]
    rw [List.drop_tail]
theorem lvB_append (m : List Vl) : ∀ (l : List Vl) (bs : List Bool), lvB (l ++ m) bs = lvB l bs ++ lvB m (bs.drop l.length)
  | [], _ => by simp [lvB]
  | x :: l, bs => by
    simp only [List.cons_append, lvB, List.length_cons, lvB_append m l bs.tail]
    rw [List.drop_tail]
theorem headD_drop (bs : List Bool) (n : Nat) : (bs.drop n).headD true = bs.getD n true := by
  rw [List.headD_eq_head?_getD, List.head?_drop, List.getD_eq_getElem?_getD]
theorem filtB_snoc (l : List Vl) (x : Vl) (bs : List Bool) : filtB (l ++ [x]) bs = filtB l bs ++ (if bs.getD l.length true then [x] else []) := by
  rw [filtB_append]; simp only [filtB, headD_drop, List.append_nil]
theorem lvB_snoc (l : List Vl) (x : Vl) (bs : List Bool) : lvB (l ++ [x]) bs = lvB l bs ++ [if bs.getD l.length true then 1 else 0] := by
  rw [lvB_append]; simp only [lvB, headD_drop]
theorem lvB_length : ∀ (l : List Vl) (bs : List Bool), (lvB l bs).length = l.length
  | [], _ => rfl
  | x :: l, bs => by simp [lvB, lvB_length l]
theorem filtB_none : ∀ l : List Vl, filtB l [] = l
  | [] => rfl
  | x :: l => by simp [filtB, filtB_none l]
theorem filtB_mem {x : Vl} : ∀ (l : List Vl) (bs : List Bool), x ∈ filtB l bs → x ∈ l
  | [], _, h => by simp [filtB] at h
  | y :: l, bs, h => by
    simp only [filtB, List.mem_append] at h
    rcases h with h | h
    · split at h
      · rw [List.mem_singleton] at h; subst h; exact List.mem_cons_self
      · cases h
    · exact List.mem_cons_of_mem _ (filtB_mem l _ h)
theorem filtB_count : ∀ (l : List Vl) (bs : List Bool), ((lvB l bs).filter fun d => d != 1).length + (filtB l bs).length = l.length
  | [], _ => rfl
  | y :: l, bs => by
    have := filtB_count l bs.tail
    simp only [lvB, filtB, List.length_append, List.length_cons]
    split
    · simp; omega
    · simp; omega
end Go.Shr
