/-
  Base, more: a copy of a slice in new memory. No program in sight.
-/
import Derived.Test.YtklimbadankdkaaPlain
import Derived.Deep.RegionHeld3
import Derived.Deep.QuietTactic
import Derived.BigQuiet
namespace Go.Shr
open Go.RowKit
/-- append([]T{}, ..): what is appended, in new memory. -/
theorem wpList_fresh {P : Program} {w : World} {ops : Array Oper} {rest : List Oper} {o : Oper} {ac : Act} {Q : Exit → Act → World → Prop} {e : TypeId} {size : Nat} {a : Option Addr} {B : Nat} (hgd : o.guard = none) (s x : Operand) (t tx : TypeId)
    (ho : o.op = .call { callee := .builtin .append, args := #[s, x], argTypes := #[t, tx] })
    (i : TypeInfo) (z : Value) (bytes : Nat) (ht : P.underlying t = some (.slice e)) (hi : P.info? e = some i) (hz : i.zero = some z) (hsize : i.size = size) (hby : i.bytes = bytes) (hzs : z.cells.size = size)
    (hsv : ac.eval s = .slice a 0 0) (v : Value) (hxv : ac.eval x = v) (m : Nat) (news : List Value) (hs : Src P size tx v m news w) (h63 : m ≤ maxLen) (hbytes : m * bytes ≤ 140737488355328) (hB : B ≤ w.heap.size)
    (hK : ∀ a' cap' w', Own B w' e size a' m cap' news → Below w.heap.size w w' → (∀ k, blk a' k → blk a k ∨ w.heap.size ≤ k) → wpList P ops Q rest (ac.put o.dst (.slice a' m cap')) w') : wpList P ops Q (o :: rest) ac w := by
  refine wpList_append (B := B) hgd s x t tx ho i z bytes ht hi hz hsize hby hzs hsv (Own.bare _ _ _ _ _) v hxv m news hs (by simpa using h63) (by simpa using hbytes) hB ?_
  intro a' cap' w' h1 h2 h3
  have := hK a' cap' w' (by simpa using h1) (h2.below (Nat.le_refl _) (fun _ _ h => by omega)) h3
  simpa using this
/-- The same in a region that draws its order. -/
theorem step_append {P : Program} {w : World} {ops : Array Oper} {o : Oper} {ac : Act} {K : Act → World → Prop} {Q : Exit → Act → World → Prop} {E : Prop} {e : TypeId} {size : Nat} {a : Option Addr} {n cap B : Nat} {xs : List Value} (hgd : o.guard = none) (s x : Operand) (t tx : TypeId)
    (ho : o.op = .call { callee := .builtin .append, args := #[s, x], argTypes := #[t, tx] })
    (i : TypeInfo) (z : Value) (bytes : Nat) (ht : P.underlying t = some (.slice e)) (hi : P.info? e = some i) (hz : i.zero = some z) (hsize : i.size = size) (hby : i.bytes = bytes) (hzs : z.cells.size = size)
    (hsv : ac.eval s = .slice a n cap) (h : Own B w e size a n cap xs) (v : Value) (hxv : ac.eval x = v) (m : Nat) (news : List Value) (hs : Src P size tx v m news w) (h63 : n + m ≤ maxLen) (hbytes : (n + m) * bytes ≤ 140737488355328) (hB : B ≤ w.heap.size)
    (hK : ∀ a' cap' w', Own B w' e size a' (n + m) cap' (xs ++ news) → Chg (fun k => blk a k ∧ B ≤ k ∧ 0 < cap) w w' → (∀ k, blk a' k → blk a k ∨ w.heap.size ≤ k) → K (ac.put o.dst (.slice a' (n + m) cap')) w') :
    if Region.wanted o (yielded ops ac.tmps) = true then Oper.wp P o ac w K Q else E := by
  have hw : Region.wanted o (yielded ops ac.tmps) = true := by simp [Region.wanted, hgd]
  rw [if_pos hw]
  obtain ⟨a', cap', w', hr, h2, h3, h4, _⟩ := run_append_own (P := P) t tx o.type i z bytes ht hi hz hsize hby hzs h v m news hs h63 hbytes hB
  unfold Oper.wp execOp
  simp only [ho, resolve, invoke, builtin, Sem.run_bind, Sem.run_pure, Result.andThen_ok, List.map_toArray, List.map_cons, List.map_nil, hsv, hxv, hr]
  exact hK a' cap' w' h2 h3 h4
theorem step_fresh {P : Program} {w : World} {ops : Array Oper} {o : Oper} {ac : Act} {K : Act → World → Prop} {Q : Exit → Act → World → Prop} {E : Prop} {e : TypeId} {size : Nat} {a : Option Addr} {B : Nat} (hgd : o.guard = none) (s x : Operand) (t tx : TypeId)
    (ho : o.op = .call { callee := .builtin .append, args := #[s, x], argTypes := #[t, tx] })
    (i : TypeInfo) (z : Value) (bytes : Nat) (ht : P.underlying t = some (.slice e)) (hi : P.info? e = some i) (hz : i.zero = some z) (hsize : i.size = size) (hby : i.bytes = bytes) (hzs : z.cells.size = size)
    (hsv : ac.eval s = .slice a 0 0) (v : Value) (hxv : ac.eval x = v) (m : Nat) (news : List Value) (hs : Src P size tx v m news w) (h63 : m ≤ maxLen) (hbytes : m * bytes ≤ 140737488355328) (hB : B ≤ w.heap.size)
    (hK : ∀ a' cap' w', Own B w' e size a' m cap' news → Below w.heap.size w w' → (∀ k, blk a' k → blk a k ∨ w.heap.size ≤ k) → K (ac.put o.dst (.slice a' m cap')) w') :
    if Region.wanted o (yielded ops ac.tmps) = true then Oper.wp P o ac w K Q else E := by
  refine step_append (B := B) hgd s x t tx ho i z bytes ht hi hz hsize hby hzs hsv (Own.bare _ _ _ _ _) v hxv m news hs (by simpa using h63) (by simpa using hbytes) hB ?_
  intro a' cap' w' h1 h2 h3
  have := hK a' cap' w' (by simpa using h1) (h2.below (Nat.le_refl _) (fun _ _ h => by omega)) h3
  simpa using this
/-- string(b). -/
theorem Sl.toString {P : Program} {ok : Nat → Prop} {w : World} {a : Option Addr} {n cap : Nat} {bs : List UInt8} {src e : TypeId} (hs : P.underlying src = some (.slice e)) (he : P.underlying e = some (.int .u8)) (h : Sl ok w 1 a n cap (u8s bs)) {dst : TypeId} (hd : P.underlying dst = some .string) :
    (convert src dst (.slice a n cap)).run P w = .ok (.string ⟨bs.toArray⟩) w := by
  have hl : bs.length = n := by have := h.len; simpa using this
  rcases h.row with h0 | ⟨b, off, rfl, _, hc⟩
  · subst h0
    obtain rfl : bs = [] := List.eq_nil_of_length_eq_zero hl
    cases a with
    | none => exact run_convert_bytes_nil w src e hs he 0 cap dst hd
    | some a =>
      rw [run_convert_bytes_string w src dst e _ 0 cap hs he hd, run_bytesToString w a 0 cap [] (by simp [loadCells, loadCellsFrom])]
      rfl
  · have := run_convert_bytes_arg (P := P) w src e hs he b off n cap (bs.map fun x => (x.toNat : Int)) (by simpa using hl) (fun i hi => by
      rw [hc i _ (u8s_get bs i (by omega))]
      simp [List.getD, show i < bs.length by omega]) dst hd
    rw [this]
    congr 3
    simp only [strOfNums, List.map_map]
    congr 1
    refine congrArg List.toArray ((List.map_congr_left (g := id) fun x _ => ?_).trans (List.map_id bs))
    simp
end Go.Shr
