/-
  What a statement's arguments are, in the walks' words.
-/
import Derived.ProofKit
import Derived.OpenShut
import Derived.ShutString
import Derived.ChangeOld
import Derived.Below
import Derived.Test.YtibhcibcfommeaaPlain
namespace Go.Shr
open Go.ChangeShapes Go.WideShapes Go.ChangeAt Go.RowKit
/-- Numbers as cells. -/
def intk (k : IntKind) (zs : List Int) : List Value := zs.map (Value.int k)
section
variable {H : Type} {enc : TypeId × Value → H} {P : Program} {w : World}
theorem open_intk {t e : TypeId} {k : IntKind} {a : Option Addr} {n cap : Nat} {d : DataW H} {p : List MemPlace} (ht : P.underlying t = some (.slice e)) (he : P.underlying e = some (.int k)) (hc : P.cellsOf e = 1)
    (h : DataW.Trod enc P w 0 (fun _ => true) true t (Value.slice a n cap) d p) : ∃ zs, Sl (fun b => b < w.heap.size) w 1 a n cap (intk k zs) ∧ ∀ z ∈ zs, (Lit.int k z).wf = true := by
  obtain ⟨fuel, hf⟩ := h
  rcases open_ints ht he hc hf with ⟨hcs, _⟩ | ⟨x, l, c, zs, hcs, _, hl, hm, hz, _, hcell, hwz⟩
  · simp [Value.cells] at hcs
    obtain ⟨rfl, rfl, rfl⟩ := hcs
    exact ⟨[], Sl.nil _ _ _ _, fun _ h => by cases h⟩
  · simp [Value.cells] at hcs
    obtain ⟨rfl, rfl, rfl⟩ := hcs
    have hz' : zs.length = cap := by simpa using hz
    refine ⟨zs.take n, ⟨?_, hl, hm, ?_⟩, fun z h => hwz z (List.mem_of_mem_take h)⟩
    · simp [intk]; omega
    · by_cases h0 : n = 0
      · exact .inl h0
      · obtain ⟨b, off, rfl, hcc⟩ := ints_at hcell (by omega)
        refine .inr ⟨b, off, rfl, ?_, fun j u hj => ?_⟩
        · exact World.block_lt_of_cell? w _ (hcc 0 (by omega))
        · simp only [intk, List.map_take, List.getElem?_take] at hj
          split at hj
          · rename_i hjn
            have := hcc j (by omega)
            rw [this]
            simp [List.getElem?_map] at hj
            obtain ⟨z, hz1, rfl⟩ := hj
            simp [List.getD, hz1]
          · cases hj
theorem open_u8s {t e : TypeId} {a : Option Addr} {n cap : Nat} {d : DataW H} {p : List MemPlace} (ht : P.underlying t = some (.slice e)) (he : P.underlying e = some (.int .u8)) (hc : P.cellsOf e = 1)
    (h : DataW.Trod enc P w 0 (fun _ => true) true t (Value.slice a n cap) d p) : ∃ bs, Sl (fun b => b < w.heap.size) w 1 a n cap (u8s bs) := by
  obtain ⟨zs, hs, hw⟩ := open_intk ht he hc h
  refine ⟨zs.map fun z => UInt8.ofNat z.toNat, ?_⟩
  have e1 : u8s (zs.map fun z => UInt8.ofNat z.toNat) = intk .u8 zs := by
    simp only [u8s, intk, List.map_map]
    refine List.map_congr_left fun z hz => ?_
    have := hw z hz
    simp [Lit.wf, IntKind.min, IntKind.max, IntKind.bits, IntKind.signed] at this
    simp
    omega
  rw [e1]; exact hs
end
theorem nats_of {zs : List Int} (h : ∀ z ∈ zs, (Lit.int .u64 z).wf = true) : ∃ vs : List Nat, zs = vs.map (fun (v : Nat) => (v : Int)) ∧ ∀ v ∈ vs, v < 18446744073709551616 := by
  induction zs with
  | nil => exact ⟨[], rfl, fun _ h => by cases h⟩
  | cons z zs ih =>
    obtain ⟨vs, h1, h2⟩ := ih (fun x hx => h x (List.mem_cons_of_mem _ hx))
    have hz := h z (List.mem_cons_self ..)
    simp [Lit.wf, IntKind.min, IntKind.max, IntKind.bits, IntKind.signed] at hz
    refine ⟨z.toNat :: vs, by rw [List.map_cons, ← h1]; congr 1; omega, fun v hv => ?_⟩
    rcases List.mem_cons.1 hv with rfl | hv
    · omega
    · exact h2 v hv
theorem nats_get (vs : List Nat) (k : Nat) (h : k < vs.length) : (intk .u64 (vs.map (fun (v : Nat) => (v : Int))))[k]? = some (.int .u64 ((vs[k] : Nat) : Int)) := by simp [intk, h]
end Go.Shr
