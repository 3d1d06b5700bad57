/-
  What a statement's arguments are: slices of texts.
-/
import Derived.Test.YtgpffcgkfgiodaaProg
import Derived.Test.YtgpffcgkfgiodaaOpen
import Derived.Test.YtgpffcgkfgiodaaLaw7B
import Derived.Lib.SmallJoins
namespace Go.Proofs.Ytgpffcgkfgiodaa
open Go.ChangeShapes Go.WideShapes Go.ChangeAt Go.RowKit Go.Shr Go.Joins Go.Deep
theorem open_strs {H : Type} {enc : TypeId × Value → H} {w : World} {held : Bool} {a : Option Addr} {n cap : Nat} {d : DataW H} {p : List MemPlace} (h : DataW.Trod enc Try.prog w 0 (fun _ => true) held 37 (.slice a n cap) d p) :
    ∃ l : List ByteArray, Sl (fun b => b < w.heap.size) w 1 a n cap (strs l) ∧ ∀ s ∈ l, s.size ≤ maxLen := by
  obtain ⟨fuel, hf⟩ := h
  obtain ⟨a', n', cap', ys, hcs, hl, hy, hsl⟩ := open_rows Try.underlying37 (size := 1) (by kernel_rfl) (by decide) hf
  simp [Value.cells] at hcs
  obtain ⟨rfl, rfl, rfl⟩ := hcs
  have key : ∀ (ys : List (List Value)), (∀ y ∈ ys, y.length = 1 ∧ ∃ fuel' x', fuel = fuel' + 1 ∧ DataW.trod enc Try.prog w 0 (fun _ => true) held fuel' 9 y = some x') → ∃ l : List ByteArray, ys.flatten = strs l ∧ ∀ s ∈ l, s.size ≤ maxLen := by
    intro ys
    induction ys with
    | nil => intro _; exact ⟨[], rfl, by simp⟩
    | cons y r ih =>
      intro hh
      obtain ⟨h5, f2, x2, _, h6⟩ := hh y List.mem_cons_self
      obtain ⟨s, hs2, _, hs3⟩ := DataW.trod_string Try.underlying9 h6
      obtain ⟨z, h7, h8⟩ := ih (fun t ht => hh t (List.mem_cons_of_mem _ ht))
      refine ⟨s :: z, by rw [List.flatten_cons, h7, hs2]; rfl, fun u hu => ?_⟩
      rcases List.mem_cons.1 hu with rfl | hu
      · exact hs3
      · exact h8 u hu
  obtain ⟨l, h1, h2⟩ := key ys hy
  exact ⟨l, by rw [← h1]; exact hsl, h2⟩
end Go.Proofs.Ytgpffcgkfgiodaa
