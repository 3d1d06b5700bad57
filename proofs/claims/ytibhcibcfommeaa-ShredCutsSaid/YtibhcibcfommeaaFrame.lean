/-
 What a statement's arguments are, in the walks' words.
-/
import Derived.ProofKit
import Derived.OpenShut
import Derived.ShutString
import Derived.ChangeOld
import Derived.Below
import Derived.Test.YtibhcibcfommeaaPlain
namespace Go.Shr
open Go.ChangeShapes Go.WideShapes Go.ChangeAt Go.RowKit
/-- Numbers as cells. -/
def intk (k : IntKind) (zs : List Int) : List Value := zs.map (Value.int k)
section
variable {H : Type} {enc : TypeId × Value → H} {P : Program} {w : World}
theorem open_intk {t e : TypeId} {k : IntKind} {a : Option Addr} {n cap : Nat} {d : DataW H} {p : List MemPlace} (ht : P.underlying t = some (.slice e)) (he : P.underlying e = some (.int k)) (hc : P.cellsOf e = 1)
  (h : DataW.Trod enc P w 0 (fun _ => true) true t (Value.slice a n cap) d p) : ∃ zs, Sl (fun b => b < w.heap.size) w 1 a n cap (intk k zs) ∧ ∀ z ∈ zs, (Lit.int k z).wf = true := by
 obtain ⟨fuel, hf⟩ := h
 rcases open_ints ht he hc hf with ⟨hcs, _⟩ | ⟨x, l, c, zs, hcs, _, hl, hm, hz, _, hcell, hwz⟩
 ·simp [Value.cells] at hcs
  obtain ⟨rfl, rfl, rfl⟩ := hcs
  exact ⟨[], Sl.nil _ _ _ _, fun _ h => by cases h⟩
 ·simp [Value.cells] at hcs
  obtain ⟨rfl, rfl, rfl⟩ := hcs
  have hz' : zs.length = cap := by simpa using hz
  refine ⟨zs.take n, ⟨?_, hl, hm, ?_⟩, fun z h => hwz z (List.mem_of_mem_take h)⟩
  ·simp [intk]; omega
  ·by_cases h0 : n = 0
   ·exact .inl h0
   ·obtain ⟨b, off, rfl, hcc⟩ := ints_at hcell (by omega)
    refine .inr ⟨b, off, rfl, ?_, fun j u hj => ?_⟩
    ·exact World.block_lt_of_cell? w _ (hcc 0 (by omega))
    ·simp only [intk, List.map_take, List.getElem?_take] at hj
     split at hj
     ·rename_i hjn
      have := hcc j (by omega)
      rw [this]
      simp [List.getElem?_map] at hj
      obtain ⟨z, hz1, rfl⟩ := hj
      simp [List.getD, hz1]
     ·cases hj
end
end Go.Shr
