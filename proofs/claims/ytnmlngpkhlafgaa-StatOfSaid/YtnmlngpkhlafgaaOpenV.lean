/-
  What a statement's arguments are: values, slices of values, of bools.
-/
import Derived.Test.YtnmlngpkhlafgaaProg
import Derived.Test.YtnmlngpkhlafgaaOpen
import Derived.Test.YtnmlngpkhlafgaaCol
import Derived.Lib.SmallJoins
namespace Go.Proofs.Ytnmlngpkhlafgaa
open Go.ChangeShapes Go.WideShapes Go.ChangeAt Go.RowKit Go.Shr Go.Joins Go.Deep
section
variable {H : Type} {enc : TypeId × Value → H} {w : World} {held : Bool}
theorem val_fields : ∃ f0 f1 : Field, Try.prog.underlying 35 = some (.struct #[f0, f1]) ∧ oneCellFields Try.prog #[f0, f1] = true ∧ f0.type = 3 ∧ f1.type = 9 :=
  ⟨_, _, Try.underlying35, by kernel_rfl, rfl, rfl⟩
theorem val_cells {fuel : Nat} {y : List Value} {x : DataW H × List MemPlace} (hl : y.length = 2) (h : DataW.trod enc Try.prog w 0 (fun _ => true) held fuel 35 y = some x) :
    ∃ v : Vl, y = [.int .i64 v.n, .string v.s] ∧ v.s.size ≤ maxLen := by
  obtain ⟨f0, f1, hs, hone, ht0, ht1⟩ := val_fields
  obtain ⟨y0, y1, n, _, _, h0, h1⟩ := trod_struct2 hs h
  obtain ⟨o0, k0⟩ := hone_of hone 0 f0 rfl
  obtain ⟨o1, k1⟩ := hone_of hone 1 f1 rfl
  match y, hl with
  | [c0, c1], _ =>
    rw [k0, o0, ht0] at h0
    rw [k1, o1, ht1] at h1
    obtain ⟨z, hz, _, _⟩ := DataW.trod_int Try.underlying3 h0
    obtain ⟨s, hs2, _, hs3⟩ := DataW.trod_string Try.underlying9 h1
    simp at hz hs2
    subst hz; subst hs2
    exact ⟨⟨z, s⟩, rfl, hs3⟩
theorem open_val {v : Value} {d : DataW H} {p : List MemPlace} {r : Reach} {b0 : Nat} (hv : Value.okWide Try.prog w r b0 35 v) (h : DataW.Trod enc Try.prog w 0 (fun _ => true) held 35 v d p) :
    ∃ x : Vl, v = .agg #[.int .i64 x.n, .string x.s] ∧ x.s.size ≤ maxLen := by
  obtain ⟨f0, f1, hs, hone, ht0, ht1⟩ := val_fields
  obtain ⟨v0, v1, y0, y1, n, rfl, _, _, h0, h1⟩ := open_agg2 hs hone (by kernel_rfl) hv h
  rw [ht0] at h0
  rw [ht1] at h1
  obtain ⟨z, hz, _, _⟩ := DataW.trod_int Try.underlying3 h0
  obtain ⟨s, hs2, _, hs3⟩ := DataW.trod_string Try.underlying9 h1
  simp at hz hs2
  subst hz; subst hs2
  exact ⟨⟨z, s⟩, rfl, hs3⟩
theorem open_vals {a : Option Addr} {n cap : Nat} {d : DataW H} {p : List MemPlace} (h : DataW.Trod enc Try.prog w 0 (fun _ => true) held 22 (.slice a n cap) d p) :
    ∃ l : List Vl, Sl (fun b => b < w.heap.size) w 2 a n cap (vls l) := by
  obtain ⟨fuel, hf⟩ := h
  obtain ⟨a', n', cap', ys, hcs, hl, hy, hsl⟩ := open_rows Try.underlying22 (size := 2) (by kernel_rfl) (by decide) hf
  simp [Value.cells] at hcs
  obtain ⟨rfl, rfl, rfl⟩ := hcs
  obtain ⟨l, h1, h2⟩ := flat_of (c := fun x : Vl => [Value.int .i64 x.n, .string x.s]) ys (fun y hyy => by
    obtain ⟨h3, f', x', _, h4⟩ := hy y hyy
    obtain ⟨v, hv, _⟩ := val_cells h3 h4
    exact ⟨v, hv⟩)
  exact ⟨l, by rw [h2] at hsl; exact hsl⟩
theorem open_bls {a : Option Addr} {n cap : Nat} {d : DataW H} {p : List MemPlace} (h : DataW.Trod enc Try.prog w 0 (fun _ => true) held 23 (.slice a n cap) d p) :
    ∃ l : List Bool, Sl (fun b => b < w.heap.size) w 1 a n cap (bools l) := by
  obtain ⟨fuel, hf⟩ := h
  obtain ⟨a', n', cap', ys, hcs, hl, hy, hsl⟩ := open_rows Try.underlying23 (size := 1) (by kernel_rfl) (by decide) hf
  simp [Value.cells] at hcs
  obtain ⟨rfl, rfl, rfl⟩ := hcs
  obtain ⟨l, h1, h2⟩ := flat_of (c := fun x : Bool => [Value.bool x]) ys (fun y hyy => by
    obtain ⟨h3, f', x', _, h4⟩ := hy y hyy
    obtain ⟨b, hb, _⟩ := DataW.trod_bool Try.underlying4 h4
    exact ⟨b, hb⟩)
  refine ⟨l, ?_⟩
  rw [h2] at hsl
  have e : l.flatMap (fun x : Bool => [Value.bool x]) = bools l := by
    clear h1 h2 hsl
    induction l with
    | nil => rfl
    | cons b l ih => simpa [bools] using ih
  rwa [e] at hsl
end
end Go.Proofs.Ytnmlngpkhlafgaa
