/-
  Base, more: a copy of a slice in new memory. No program in sight.
-/
import Derived.Test.YtklimbadankdkaaBase
namespace Go.Shr
open Go.RowKit
/-- append([]T{}, ..): what is appended, in new memory. -/
theorem wpList_fresh {P : Program} {w : World} {ops : Array Oper} {rest : List Oper} {o : Oper} {ac : Act} {Q : Exit → Act → World → Prop} {e : TypeId} {size : Nat} {a : Option Addr} {B : Nat} (hgd : o.guard = none) (s x : Operand) (t tx : TypeId)
    (ho : o.op = .call { callee := .builtin .append, args := #[s, x], argTypes := #[t, tx] })
    (i : TypeInfo) (z : Value) (bytes : Nat) (ht : P.underlying t = some (.slice e)) (hi : P.info? e = some i) (hz : i.zero = some z) (hsize : i.size = size) (hby : i.bytes = bytes) (hzs : z.cells.size = size)
    (hsv : ac.eval s = .slice a 0 0) (v : Value) (hxv : ac.eval x = v) (m : Nat) (news : List Value) (hs : Src P size tx v m news w) (h63 : m ≤ maxLen) (hbytes : m * bytes ≤ 140737488355328) (hB : B ≤ w.heap.size)
    (hK : ∀ a' cap' w', Own B w' e size a' m cap' news → Below w.heap.size w w' → (∀ k, blk a' k → blk a k ∨ w.heap.size ≤ k) → wpList P ops Q rest (ac.put o.dst (.slice a' m cap')) w') : wpList P ops Q (o :: rest) ac w := by
  refine wpList_append (B := B) hgd s x t tx ho i z bytes ht hi hz hsize hby hzs hsv (Own.bare _ _ _ _ _) v hxv m news hs (by simpa using h63) (by simpa using hbytes) hB ?_
  intro a' cap' w' h1 h2 h3
  have := hK a' cap' w' (by simpa using h1) (h2.below (Nat.le_refl _) (fun _ _ h => by omega)) h3
  simpa using this
end Go.Shr
