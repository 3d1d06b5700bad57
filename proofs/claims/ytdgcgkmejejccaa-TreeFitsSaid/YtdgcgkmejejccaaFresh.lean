/-
  append onto nothing, at one operation. No program in sight.
-/
import Derived.Test.YtdgcgkmejejccaaRegJ
import Derived.Test.YtdgcgkmejejccaaTrG
namespace Go.Shr
open Go.RowKit
theorem wp_fresh {P : Program} {w : World} {o : Oper} {ac : Act} {K : Act → World → Prop} {Q : Exit → Act → World → Prop} {e : TypeId} {size : Nat} {a : Option Addr} {B : Nat} (s x : Operand) (t tx : TypeId)
    (ho : o.op = .call { callee := .builtin .append, args := #[s, x], argTypes := #[t, tx] })
    (i : TypeInfo) (z : Value) (bytes : Nat) (ht : P.underlying t = some (.slice e)) (hi : P.info? e = some i) (hz : i.zero = some z) (hsize : i.size = size) (hby : i.bytes = bytes) (hzs : z.cells.size = size)
    (hsv : ac.eval s = .slice a 0 0) (v : Value) (hxv : ac.eval x = v) (m : Nat) (news : List Value) (hs : Src P size tx v m news w) (h63 : m ≤ maxLen) (hbytes : m * bytes ≤ 140737488355328) (hB : B ≤ w.heap.size)
    (hK : ∀ a' cap' w', Own B w' e size a' m cap' news → Below w.heap.size w w' → (∀ k, blk a' k → blk a k ∨ (w.heap.size ≤ k ∧ ∃ cur, Rw w' k cur e)) → K (ac.put o.dst (.slice a' m cap')) w') : Oper.wp P o ac w K Q := by
  obtain ⟨a', cap', w', hr, h2, h3, h4, h5⟩ := run_append_own (P := P) t tx o.type i z bytes ht hi hz hsize hby hzs (Own.bare B w e size a) v m news hs (by simpa using h63) (by simpa using hbytes) hB
  rw [Nat.zero_add] at h2 h5 hr
  unfold Oper.wp execOp
  simp only [ho, resolve, invoke, builtin, Sem.run_bind, Sem.run_pure, Result.andThen_ok, List.map_toArray, List.map_cons, List.map_nil, hsv, hxv, hr]
  rw [List.nil_append] at h2
  show K (ac.put o.dst (.slice a' m cap')) w'
  refine hK a' cap' w' h2 (h3.below (Nat.le_refl _) (fun _ _ h => by omega)) ?_
  intro k hk
  by_cases hm : m = 0
  · obtain ⟨_, rfl, _⟩ := h5 hm; exact .inl hk
  · rcases h4 k hk with h | h
    · exact .inl h
    · refine .inr ⟨h, ?_⟩
      rcases h2.row with h0 | ⟨g, cur, rfl, _, hg, _⟩
      · have := h2.le; omega
      · obtain ⟨_, _, e⟩ := hk
        cases e
        exact ⟨cur, hg⟩
end Go.Shr
