import Derived.ChangeSame
import Derived.DataReads
import Derived.Test.YtjbkjfefjhbolaakMany9
import Derived.Lib.SmallJoins
set_option linter.all false
open List renaming mem_cons_of_mem → zLP, mem_cons_self → zLQ, flatten_cons → zLR, getElem?_eq_getElem → zLS
namespace Go.Shr
open Go.ChangeShapes Go.WideShapes Go.ChangeAt Go.RowKit
section
variable {H : Type} {enc : TypeId × Value → H} {P : Program} {w : World} {held : Bool}
theorem xX {size : Nat} : ∀ (ys : List (List Value)), (∀ y ∈ ys, y.length = size) → ys.flatten.length = ys.length * size
 | [], _ => by simp
 | y :: ys, h => by
  have h1 := h y zLQ
  have h2 := xX ys (fun z hz => h z (zLP _ hz))
  rw [zLR, List.length_append, List.length_cons, h1, h2, Nat.succ_mul]; omega
theorem zGi {size : Nat} (hs : 0 < size) : ∀ (ys : List (List Value)), (∀ y ∈ ys, y.length = size) → ∀ (j : Nat) (u : Value), ys.flatten[j]? = some u → ∃ y, ys[j / size]? = some y ∧ y[j % size]? = some u
 | [], _, j, u, h => by simp at h
 | y :: ys, hy, j, u, h => by
  have h1 := hy y zLQ
  rw [zLR] at h
  by_cases hj : j < size
  ·rw [List.getElem?_append_left (by omega)] at h
   rw [Nat.div_eq_of_lt hj, Nat.mod_eq_of_lt hj]
   exact ⟨y, rfl, h⟩
  ·rw [List.getElem?_append_right (by omega), h1] at h
   obtain ⟨r, rfl⟩ : ∃ r, j = r + size := ⟨j - size, by omega⟩
   rw [Nat.add_sub_cancel] at h
   obtain ⟨z, hz1, hz2⟩ := zGi hs ys (fun z hz => hy z (zLP _ hz)) r u h
   rw [Nat.add_div_right _ hs, Nat.add_mod_right]
   exact ⟨z, by rw [List.getElem?_cons_succ]; exact hz1, hz2⟩
theorem zAJ {t e : TypeId} {size fuel : Nat} {cs : List Value} {x : DataW H × List MemPlace} (ht : P.underlying t = some (.slice e)) (hc : P.cellsOf e = size) (hs : 0 < size)
  (h : DataW.trod enc P w 0 (fun _ => true) held fuel t cs = some x) :
  ∃ (a : Option Addr) (n cap : Nat) (ys : List (List Value)), cs = [.slice a n cap] ∧ ys.length = n ∧ (∀ y ∈ ys, y.length = size ∧ ∃ fuel' x', fuel = fuel' + 1 ∧ DataW.trod enc P w 0 (fun _ => true) held fuel' e y = some x') ∧ Sl (fun b => b < w.heap.size) w size a n cap ys.flatten := by
 rcases DataW.trod_slice ht h with ⟨rfl, _⟩ | ⟨a, len, cap, elems, rest, n, hfu, rfl, _, _, hl, hm, hlen, hel, _, _⟩
 ·exact ⟨none, 0, 0, [], rfl, rfl, fun _ h => (by cases h), Sl.nil _ _ _ _⟩
 ·have hex : ∀ i : Fin len, ∃ y : List Value, w.cells? 0 (a.add (i * size)) size = some y ∧ ∃ x', DataW.trod enc P w 0 (fun _ => true) held n e y = some x' := by
   intro i
   have h1 := hel i i.2
   rw [hc, zLS (by rw [hlen]; exact i.2), Option.bind_eq_some_iff] at h1
   obtain ⟨y, h2, h3⟩ := h1
   exact ⟨y, h2, _, h3⟩
  let f : Fin len → List Value := fun i => Classical.choose (hex i)
  have hf : ∀ i : Fin len, w.cells? 0 (a.add (i * size)) size = some (f i) ∧ ∃ x', DataW.trod enc P w 0 (fun _ => true) held n e (f i) = some x' := fun i => Classical.choose_spec (hex i)
  have hlen2 : ∀ y ∈ List.ofFn f, y.length = size := by
   intro y hy
   obtain ⟨i, rfl⟩ := List.mem_ofFn.1 hy
   exact (World.cells?_some (hf i).1).2.1
  refine ⟨some a, len, cap, List.ofFn f, rfl, by simp, ?_, ⟨?_, hl, hm, ?_⟩⟩
  ·intro y hy
   refine ⟨hlen2 y hy, n, ?_⟩
   obtain ⟨i, rfl⟩ := List.mem_ofFn.1 hy
   obtain ⟨x', hx'⟩ := (hf i).2
   exact ⟨x', hfu, hx'⟩
  ·rw [xX _ hlen2, List.length_ofFn]
  ·by_cases h0 : len = 0
   ·exact .inl h0
   ·obtain ⟨b, off, spot⟩ := a
    have hc0 := (World.cells?_some (hf ⟨0, by omega⟩).1).2.2 0 hs
    have hl0 : (f ⟨0, by omega⟩).length = size := (World.cells?_some (hf ⟨0, by omega⟩).1).2.1
    rw [zLS (by omega)] at hc0
    have hspot : spot = none := by simpa [Addr.add] using World.cell?_spot hc0
    subst hspot
    have hcell : ∀ j u, (List.ofFn f).flatten[j]? = some u → w.cell? ⟨b, off + j, none⟩ = some u := by
     intro j u hj
     obtain ⟨y, hy1, hy2⟩ := zGi hs _ hlen2 j u hj
     have hi : j / size < len := by simpa using (List.getElem?_eq_some_iff.1 hy1).1
     have hyf : f ⟨j / size, hi⟩ = y := by simpa [hi] using hy1
     have hr := (World.cells?_some (hf ⟨j / size, hi⟩).1).2.2 (j % size) (Nat.mod_lt _ hs)
     rw [hyf, hy2, add_plain, add_plain] at hr
     have e1 : off + j / size * size + j % size = off + j := by rw [Nat.add_assoc, Nat.div_add_mod' j size]
     rw [← e1]; exact hr
    refine .inr ⟨b, off, rfl, ?_, hcell⟩
    rw [add_plain, add_plain] at hc0
    exact World.block_lt_of_cell? w _ hc0
theorem zFj {α : Type} {c : α → List Value} : ∀ (ys : List (List Value)), (∀ y ∈ ys, ∃ x, y = c x) → ∃ l : List α, l.length = ys.length ∧ ys.flatten = l.flatMap c
 | [], _ => ⟨[], rfl, rfl⟩
 | y :: ys, h => by
  obtain ⟨x, rfl⟩ := h y zLQ
  obtain ⟨l, h1, h2⟩ := zFj ys (fun z hz => h z (zLP _ hz))
  exact ⟨x :: l, by simp [h1], by simp [h2]⟩
end
end Go.Shr
namespace Go.Proofs.Ytjbkjfefjhbolaa
open Go.ChangeShapes Go.WideShapes Go.ChangeAt Go.RowKit Go.Shr Go.Joins Go.Deep
section
variable {H : Type} {enc : TypeId × Value → H} {w : World} {held : Bool}
theorem zGK {a : Option Addr} {n cap : Nat} {d : DataW H} {p : List MemPlace} (h : DataW.Trod enc Try.prog w 0 (fun _ => true) held 23 (.slice a n cap) d p) :
  ∃ (zz : List (List Int)) (xs : List Value), Sl (fun b => b < w.heap.size) w 1 a n cap xs ∧ zEa w zz xs ∧ ∀ z ∈ zz, ∀ v ∈ z, (Lit.int .i64 v).wf = true := by
 obtain ⟨fuel, hf⟩ := h
 obtain ⟨a', n', cap', ys, hcs, hl, hy, hsl⟩ := zAJ Try.underlying23 (size := 1) (by kernel_rfl) (by decide) hf
 simp [Value.cells] at hcs
 obtain ⟨rfl, rfl, rfl⟩ := hcs
 have key : ∀ y ∈ ys, ∃ (z : List Int), ∃ (b : Option Addr) (c : Nat), y = [.slice b z.length c] ∧ Sl (fun b => b < w.heap.size) w 1 b z.length c (z.map fun z => .int .i64 z) ∧ ∀ v ∈ z, (Lit.int .i64 v).wf = true := by
  intro y hyy
  obtain ⟨h3, f', x', _, h4⟩ := hy y hyy
  obtain ⟨b, m, c, zs, hcs', hzl, hz, hsl'⟩ := zAJ Try.underlying22 (size := 1) (by kernel_rfl) (by decide) h4
  have : ∀ (zs : List (List Value)), (∀ y ∈ zs, y.length = 1 ∧ ∃ fuel' x', f' = fuel' + 1 ∧ DataW.trod enc Try.prog w 0 (fun _ => true) held fuel' 3 y = some x') → ∃ z : List Int, z.length = zs.length ∧ zs.flatten = z.map (fun z => Value.int .i64 z) ∧ ∀ v ∈ z, (Lit.int .i64 v).wf = true := by
   intro zs
   induction zs with
   | nil => intro _; exact ⟨[], rfl, rfl, by simp⟩
   | cons y r ih =>
    intro hh
    obtain ⟨h5, f2, x2, _, h6⟩ := hh y zLQ
    obtain ⟨v, hv, _, hvw⟩ := DataW.trod_int Try.underlying3 h6
    obtain ⟨z, h7, h8, h9⟩ := ih (fun t ht => hh t (zLP _ ht))
    refine ⟨v :: z, by simp [h7], by rw [zLR, h8, hv]; rfl, fun u hu => ?_⟩
    rcases List.mem_cons.1 hu with rfl | hu
    ·exact hvw
    ·exact h9 u hu
  obtain ⟨z, hz1, hz2, hz3⟩ := this zs hz
  rw [hz2] at hsl'
  have : m = z.length := by omega
  subst this
  exact ⟨z, b, c, hcs', hsl', hz3⟩
 have key2 : ∀ (ys : List (List Value)), (∀ y ∈ ys, ∃ (z : List Int), ∃ (b : Option Addr) (c : Nat), y = [.slice b z.length c] ∧ Sl (fun b => b < w.heap.size) w 1 b z.length c (z.map fun z => .int .i64 z) ∧ ∀ v ∈ z, (Lit.int .i64 v).wf = true) →
   ∃ zz : List (List Int), zEa w zz ys.flatten ∧ ∀ z ∈ zz, ∀ v ∈ z, (Lit.int .i64 v).wf = true := by
  intro ys
  induction ys with
  | nil => intro _; exact ⟨[], ⟨rfl, fun k hk => absurd hk (Nat.not_lt_zero _)⟩, by simp⟩
  | cons y r ih =>
   intro hh
   obtain ⟨z, b, c, rfl, h5, h6⟩ := hh y zLQ
   obtain ⟨zz, h7, h8⟩ := ih (fun t ht => hh t (zLP _ ht))
   refine ⟨z :: zz, ⟨by simp [h7.len], fun k hk => ?_⟩, fun u hu => ?_⟩
   ·cases k with
    | zero => exact ⟨b, c, rfl, h5⟩
    | succ k =>
     obtain ⟨b', c', h9, h10⟩ := h7.row k (by simpa using hk)
     exact ⟨b', c', by simpa using h9, h10⟩
   ·rcases List.mem_cons.1 hu with rfl | hu
    ·exact h6
    ·exact h8 u hu
 obtain ⟨zz, h1, h2⟩ := key2 ys key
 exact ⟨zz, _, hsl, h1, h2⟩
end
end Go.Proofs.Ytjbkjfefjhbolaa
