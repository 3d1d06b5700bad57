/-
  Rows that are known whole, several at once. No program in sight.
-/
import Derived.Test.YtgpffcgkfgiodaaRegion
namespace Go.Shr
open Go.RowKit
/-- All these rows are known whole. -/
def Rws (w : World) (L : List (Nat × Array Value × TypeId)) : Prop := ∀ x ∈ L, Rw w x.1 x.2.1 x.2.2
section
variable {w w' : World} {L : List (Nat × Array Value × TypeId)}
theorem Rws.nil (w : World) : Rws w [] := fun _ h => by cases h
theorem Rws.get (h : Rws w L) (i : Nat) {b : Nat} {cur : Array Value} {t : TypeId} (hi : L[i]? = some (b, cur, t)) : Rw w b cur t := h _ (List.mem_of_getElem? hi)
theorem Rws.cons {b : Nat} {cur : Array Value} {t : TypeId} (h : Rws w L) (k : Rw w b cur t) : Rws w ((b, cur, t) :: L) := fun x hx => by
  rcases List.mem_cons.1 hx with rfl | hx
  · exact k
  · exact h x hx
theorem Rws.tail {x} (h : Rws w (x :: L)) : Rws w L := fun y hy => h y (List.mem_cons_of_mem _ hy)
theorem Rws.below (h : Rws w L) (hb : Below w.heap.size w w') : Rws w' L := fun x hx => (h x hx).below hb
theorem Rws.alloc (h : Rws w L) (o : Obj) : Rws (w.alloc o) L := h.below ((Below.refl _ _).alloc (Nat.le_refl _) o)
theorem Rws.drew (h : Rws w L) : Rws w.drew L := fun x hx => (h x hx).drew
theorem Rws.new (h : Rws w L) (cur : Array Value) (t : TypeId) : Rws (w.alloc (.cells cur t)) ((w.heap.size, cur, t) :: L) := (h.alloc _).cons (Rw.new w cur t)
theorem Rws.lt (h : Rws w L) (i : Nat) {b : Nat} {cur : Array Value} {t : TypeId} (hi : L[i]? = some (b, cur, t)) : b < w.heap.size := (h.get i hi).lt
/-- A cell that is read. -/
theorem Rws.cell (h : Rws w L) (i j : Nat) {b : Nat} {cur : Array Value} {t : TypeId} {v : Value} (hi : L[i]? = some (b, cur, t)) (hj : cur[j]? = some v) : w.cell? ⟨b, j, none⟩ = some v := ((h.get i hi).cell j).trans hj
theorem Rws.frozen (h : Rws w L) (i : Nat) {b : Nat} {cur : Array Value} {t : TypeId} (hi : L[i]? = some (b, cur, t)) (j : Nat) : w.frozen? ⟨b, j, none⟩ = false := (h.get i hi).frozen j
/-- A cell that is stored into: no other row lies in that block. -/
theorem Rws.set (h : Rws w L) (i j : Nat) (u : Value) {b : Nat} {cur : Array Value} {t : TypeId} (hi : L[i]? = some (b, cur, t)) (hd : ∀ k x, L[k]? = some x → k ≠ i → x.1 ≠ b) :
    Rws (w.setCell ⟨b, j, none⟩ u) (L.set i (b, cur.setIfInBounds j u, t)) := fun x hx => by
  obtain ⟨k, hk⟩ := List.getElem?_of_mem hx
  by_cases hki : k = i
  · subst hki
    have hlt : k < L.length := (List.getElem?_eq_some_iff.1 hi).1
    rw [List.getElem?_set_self hlt] at hk
    obtain rfl := Option.some.inj hk
    exact (h.get k hi).set j u
  · rw [List.getElem?_set_ne (Ne.symm hki)] at hk
    exact (h.get k (b := x.1) (cur := x.2.1) (t := x.2.2) hk).other (hd k x hk hki) u
theorem Rws.other (h : Rws w L) {p : Addr} (hd : ∀ x ∈ L, x.1 ≠ p.block) (u : Value) : Rws (w.setCell p u) L := fun x hx => (h x hx).other (hd x hx) u
theorem Rws.chg {S : Nat → Prop} (h : Rws w L) (hc : Chg S w w') (hn : ∀ x ∈ L, ¬ S x.1) : Rws w' L := fun x hx => (h x hx).chg hc (hn x hx)
theorem Rws.ren {W X : World} (hW : W = X) (h : Rws X L) : Rws W L := hW ▸ h
/-- A cell that is read, behind what leaves all old blocks as they were. -/
theorem cb {p : Addr} {v : Value} (hb : Below w.heap.size w w') (h : w.cell? p = some v) : w'.cell? p = some v := (hb.cell (World.block_lt_of_cell? w p h)).trans h
/-- A guarded operation that is not wanted. -/
theorem wpAnyF_skip {P : Program} {ops : Array Oper} {Q : Exit → Act → World → Prop} {md : Region.Mode} {S : World → Prop} {F : List Nat} (i : Nat) {oi : Oper} {fuel : Nat} {listed : Array Bool} {a : Act} {w : World} (hi : ops[i]? = some oi)
    (hB : (Region.noSelect ops && Region.free md ops listed i && (Region.ready md ops listed).contains i && lastB md ops F i && closedB md ops listed) = true)
    (hQ : ∀ c a w, Q (.panic c) (a.put oi.dst undef) w → Q (.panic c) a w) (hS : S w) (hw : Region.wanted oi (yielded ops a.tmps) = false)
    (h : wpAnyF P md ops Q S F fuel (listed.setIfInBounds i true) (a.put oi.dst undef) w) : wpAnyF P md ops Q S F (fuel + 1) listed a w := by
  simp only [Bool.and_eq_true] at hB
  exact wpAnyF_first hi (Region.noSelect_spec hB.1.1.1.1) hB.1.2 hQ fuel listed a w (closedB_spec hB.2) (Region.free_spec hi hB.1.1.1.2) (by simpa using hB.1.1.2) (.inr ⟨hw, rfl⟩) hS h
theorem b0 (w : World) : Below w.heap.size w w := Below.refl _ _
/-- A slice that is read, behind what leaves all old blocks as they were. -/
theorem slb {size n cap : Nat} {a : Option Addr} {xs : List Value} (h : Sl (fun b => b < w.heap.size) w size a n cap xs) (hb : Below w.heap.size w w') : Sl (fun b => b < w'.heap.size) w' size a n cap xs :=
  ⟨h.len, h.le, h.max, h.row.imp id fun ⟨b, off, h1, h2, h3⟩ => ⟨b, off, h1, Nat.lt_of_lt_of_le h2 hb.size, fun j u hj => cb hb (h3 j u hj)⟩⟩
end
end Go.Shr
