/-
 What a statement's arguments are: rows of numbers.
-/
import Derived.Test.YtibhcibcfommeaaProg
import Derived.Test.YtibhcibcfommeaaOpen
import Derived.Test.YtibhcibcfommeaaMany9
import Derived.Lib.SmallJoins
namespace Go.Proofs.Ytibhcibcfommeaa
open Go.ChangeShapes Go.WideShapes Go.ChangeAt Go.RowKit Go.Shr Go.Joins Go.Deep
section
variable {H : Type} {enc : TypeId × Value → H} {w : World} {held : Bool}
theorem open_irows {a : Option Addr} {n cap : Nat} {d : DataW H} {p : List MemPlace} (h : DataW.Trod enc Try.prog w 0 (fun _ => true) held 23 (.slice a n cap) d p) :
  ∃ (zz : List (List Int)) (xs : List Value), Sl (fun b => b < w.heap.size) w 1 a n cap xs ∧ IRows w zz xs ∧ ∀ z ∈ zz, ∀ v ∈ z, (Lit.int .i64 v).wf = true := by
 obtain ⟨fuel, hf⟩ := h
 obtain ⟨a', n', cap', ys, hcs, hl, hy, hsl⟩ := open_rows Try.underlying23 (size := 1) (by kernel_rfl) (by decide) hf
 simp [Value.cells] at hcs
 obtain ⟨rfl, rfl, rfl⟩ := hcs
 have key : ∀ y ∈ ys, ∃ (z : List Int), ∃ (b : Option Addr) (c : Nat), y = [.slice b z.length c] ∧ Sl (fun b => b < w.heap.size) w 1 b z.length c (z.map fun z => .int .i64 z) ∧ ∀ v ∈ z, (Lit.int .i64 v).wf = true := by
  intro y hyy
  obtain ⟨h3, f', x', _, h4⟩ := hy y hyy
  obtain ⟨b, m, c, zs, hcs', hzl, hz, hsl'⟩ := open_rows Try.underlying22 (size := 1) (by kernel_rfl) (by decide) h4
  have : ∀ (zs : List (List Value)), (∀ y ∈ zs, y.length = 1 ∧ ∃ fuel' x', f' = fuel' + 1 ∧ DataW.trod enc Try.prog w 0 (fun _ => true) held fuel' 3 y = some x') → ∃ z : List Int, z.length = zs.length ∧ zs.flatten = z.map (fun z => Value.int .i64 z) ∧ ∀ v ∈ z, (Lit.int .i64 v).wf = true := by
   intro zs
   induction zs with
   | nil => intro _; exact ⟨[], rfl, rfl, by simp⟩
   | cons y r ih =>
    intro hh
    obtain ⟨h5, f2, x2, _, h6⟩ := hh y List.mem_cons_self
    obtain ⟨v, hv, _, hvw⟩ := DataW.trod_int Try.underlying3 h6
    obtain ⟨z, h7, h8, h9⟩ := ih (fun t ht => hh t (List.mem_cons_of_mem _ ht))
    refine ⟨v :: z, by simp [h7], by rw [List.flatten_cons, h8, hv]; rfl, fun u hu => ?_⟩
    rcases List.mem_cons.1 hu with rfl | hu
    ·exact hvw
    ·exact h9 u hu
  obtain ⟨z, hz1, hz2, hz3⟩ := this zs hz
  rw [hz2] at hsl'
  have : m = z.length := by omega
  subst this
  exact ⟨z, b, c, hcs', hsl', hz3⟩
 have key2 : ∀ (ys : List (List Value)), (∀ y ∈ ys, ∃ (z : List Int), ∃ (b : Option Addr) (c : Nat), y = [.slice b z.length c] ∧ Sl (fun b => b < w.heap.size) w 1 b z.length c (z.map fun z => .int .i64 z) ∧ ∀ v ∈ z, (Lit.int .i64 v).wf = true) →
   ∃ zz : List (List Int), IRows w zz ys.flatten ∧ ∀ z ∈ zz, ∀ v ∈ z, (Lit.int .i64 v).wf = true := by
  intro ys
  induction ys with
  | nil => intro _; exact ⟨[], ⟨rfl, fun k hk => absurd hk (Nat.not_lt_zero _)⟩, by simp⟩
  | cons y r ih =>
   intro hh
   obtain ⟨z, b, c, rfl, h5, h6⟩ := hh y List.mem_cons_self
   obtain ⟨zz, h7, h8⟩ := ih (fun t ht => hh t (List.mem_cons_of_mem _ ht))
   refine ⟨z :: zz, ⟨by simp [h7.len], fun k hk => ?_⟩, fun u hu => ?_⟩
   ·cases k with
    | zero => exact ⟨b, c, rfl, h5⟩
    | succ k =>
     obtain ⟨b', c', h9, h10⟩ := h7.row k (by simpa using hk)
     exact ⟨b', c', by simpa using h9, h10⟩
   ·rcases List.mem_cons.1 hu with rfl | hu
    ·exact h6
    ·exact h8 u hu
 obtain ⟨zz, h1, h2⟩ := key2 ys key
 exact ⟨zz, _, hsl, h1, h2⟩
end
end Go.Proofs.Ytibhcibcfommeaa
