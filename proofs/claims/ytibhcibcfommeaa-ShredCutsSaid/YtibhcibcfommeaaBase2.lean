/-
 Base, more: a copy of a slice in new memory. No program in sight.
-/
import Derived.Test.YtibhcibcfommeaaPlain
import Derived.Deep.RegionHeld3
import Derived.Deep.QuietTactic
import Derived.BigQuiet
namespace Go.Shr
open Go.RowKit
/-- The same in a region that draws its order. -/
theorem step_append {P : Program} {w : World} {ops : Array Oper} {o : Oper} {ac : Act} {K : Act → World → Prop} {Q : Exit → Act → World → Prop} {E : Prop} {e : TypeId} {size : Nat} {a : Option Addr} {n cap B : Nat} {xs : List Value} (hgd : o.guard = none) (s x : Operand) (t tx : TypeId)
  (ho : o.op = .call { callee := .builtin .append, args := #[s, x], argTypes := #[t, tx] })
  (i : TypeInfo) (z : Value) (bytes : Nat) (ht : P.underlying t = some (.slice e)) (hi : P.info? e = some i) (hz : i.zero = some z) (hsize : i.size = size) (hby : i.bytes = bytes) (hzs : z.cells.size = size)
  (hsv : ac.eval s = .slice a n cap) (h : Own B w e size a n cap xs) (v : Value) (hxv : ac.eval x = v) (m : Nat) (news : List Value) (hs : Src P size tx v m news w) (h63 : n + m ≤ maxLen) (hbytes : (n + m) * bytes ≤ 140737488355328) (hB : B ≤ w.heap.size)
  (hK : ∀ a' cap' w', Own B w' e size a' (n + m) cap' (xs ++ news) → Chg (fun k => blk a k ∧ B ≤ k ∧ 0 < cap) w w' → (∀ k, blk a' k → blk a k ∨ w.heap.size ≤ k) → K (ac.put o.dst (.slice a' (n + m) cap')) w') :
  if Region.wanted o (yielded ops ac.tmps) = true then Oper.wp P o ac w K Q else E := by
 have hw : Region.wanted o (yielded ops ac.tmps) = true := by simp [Region.wanted, hgd]
 rw [if_pos hw]
 obtain ⟨a', cap', w', hr, h2, h3, h4, _⟩ := run_append_own (P := P) t tx o.type i z bytes ht hi hz hsize hby hzs h v m news hs h63 hbytes hB
 unfold Oper.wp execOp
 simp only [ho, resolve, invoke, builtin, Sem.run_bind, Sem.run_pure, Result.andThen_ok, List.map_toArray, List.map_cons, List.map_nil, hsv, hxv, hr]
 exact hK a' cap' w' h2 h3 h4
/-- A new block; what leaves all old blocks as they were, behind what did. -/
theorem ba {w0 w : World} (h : Below w0.heap.size w0 w) (o : Obj) : Below w0.heap.size w0 (w.alloc o) := h.alloc h.size o
theorem bt {w0 w w' : World} (h : Below w0.heap.size w0 w) (k : Below w.heap.size w w') : Below w0.heap.size w0 w' := h.trans (k.mono h.size)
theorem Own.below {B : Nat} {w w' : World} {e : TypeId} {size : Nat} {a : Option Addr} {n cap : Nat} {xs : List Value} (h : Own B w e size a n cap xs) (hb : Below w.heap.size w w') : Own B w' e size a n cap xs := by
 refine ⟨h.len, h.le, h.max, h.row.imp id ?_⟩
 rintro ⟨g, cur, rfl, hB, hg, hs, ht⟩
 exact ⟨g, cur, rfl, hB, (hb.block g (Array.getElem?_eq_some_iff.1 hg).1).trans hg, hs, ht⟩
/-- What was changed lies in blocks from w0's end on. -/
theorem Chg.bt {S : Nat → Prop} {w0 w w' : World} (h : Below w0.heap.size w0 w) (k : Chg S w w') (hS : ∀ i, i < w0.heap.size → ¬ S i) : Below w0.heap.size w0 w' :=
 ⟨k.os.trans h.os, k.tape.trans h.tape, k.output.trans h.output, Nat.le_trans h.size k.size, fun i hi => (k.block i (Nat.lt_of_lt_of_le hi h.size) (hS i hi)).trans (h.block i hi)⟩
/-- A row that is known whole. -/
def Rw (w : World) (b : Nat) (cur : Array Value) (t : TypeId) : Prop := w.heap[b]? = some (.cells cur t (0, 0))
theorem Rw.cell {w : World} {b : Nat} {cur : Array Value} {t : TypeId} (h : Rw w b cur t) (j : Nat) : w.cell? ⟨b, j, none⟩ = cur[j]? := cell_of_row w b j cur t (0, 0) h
theorem Rw.frozen {w : World} {b : Nat} {cur : Array Value} {t : TypeId} (h : Rw w b cur t) (j : Nat) : w.frozen? ⟨b, j, none⟩ = false := by
 have h' : w.heap[b]? = some (.cells cur t (0, 0)) := h
 simp [World.frozen?, h']
theorem Rw.lt {w : World} {b : Nat} {cur : Array Value} {t : TypeId} (h : Rw w b cur t) : b < w.heap.size := (Array.getElem?_eq_some_iff.1 h).1
theorem Rw.below {w w' : World} {b : Nat} {cur : Array Value} {t : TypeId} (h : Rw w b cur t) (hb : Below w.heap.size w w') : Rw w' b cur t := (hb.block b h.lt).trans h
theorem Rw.alloc {w : World} {b : Nat} {cur : Array Value} {t : TypeId} (h : Rw w b cur t) (o : Obj) : Rw (w.alloc o) b cur t := h.below ((Below.refl _ _).alloc (Nat.le_refl _) o)
theorem Rw.drew {w : World} {b : Nat} {cur : Array Value} {t : TypeId} (h : Rw w b cur t) : Rw w.drew b cur t := h
theorem Rw.new (w : World) (cur : Array Value) (t : TypeId) : Rw (w.alloc (.cells cur t)) w.heap.size cur t := heap_alloc_new w _
theorem Rw.new' {w : World} {b : Nat} {cur : Array Value} {t : TypeId} (hb : w.heap.size = b) : Rw (w.alloc (.cells cur t)) b cur t := by subst hb; exact Rw.new w cur t
theorem Rw.other {w : World} {b : Nat} {cur : Array Value} {t : TypeId} (h : Rw w b cur t) {p : Addr} (hp : b ≠ p.block) (u : Value) : Rw (w.setCell p u) b cur t := (Below.heap_setCell w p u b hp).trans h
theorem Rw.set {w : World} {b : Nat} {cur : Array Value} {t : TypeId} (h : Rw w b cur t) (j : Nat) (u : Value) : Rw (w.setCell ⟨b, j, none⟩ u) b (cur.setIfInBounds j u) t := by
 have h' : w.heap[b]? = some (.cells cur t (0, 0)) := h
 show (w.setCell ⟨b, j, none⟩ u).heap[b]? = _
 simp [World.setCell, Array.getElem?_modify, h']
theorem Rw.chg {S : Nat → Prop} {w w' : World} {b : Nat} {cur : Array Value} {t : TypeId} (h : Rw w b cur t) (hc : Chg S w w') (hn : ¬ S b) : Rw w' b cur t := (hc.block b h.lt hn).trans h
/-- What is appended: a row that is known whole. -/
theorem src_rw {P : Program} {tx e' : TypeId} (hk : P.underlying tx = some (.slice e')) {w : World} {b : Nat} {cur : Array Value} {t : TypeId} (h : Rw w b cur t) (n size : Nat) (hs : cur.size = n * size) (h1 : ∀ u ∈ cur.toList, u.oneCell' = true) :
  Src P size tx (.slice (some ⟨b, 0, none⟩) n n) n cur.toList w := by
 refine Src.ofSlice _ hk _ n n _ (by simpa using hs) (fun j u hj => ?_) h1
 have : (⟨b, 0, none⟩ : Addr).add j = ⟨b, j, none⟩ := by unfold Addr.add; split <;> simp_all
 rw [this, h.cell]
 simpa using hj
/-- The world under a new name. -/
theorem gen_w {K : Act → World → Prop} {a : Act} {W : World} (h : ∀ W', W' = W → K a W') : K a W := h W rfl
theorem Rw.fresh {B : Nat} {w W : World} (_ : Below B w W) (cur : Array Value) (t : TypeId) : Rw (W.alloc (.cells cur t)) W.heap.size cur t := Rw.new W cur t
theorem Rw.blt {B : Nat} {w W : World} (h : Below B w W) (hB : B ≤ w.heap.size) : B ≤ W.heap.size := Nat.le_trans hB h.size
theorem Rw.ren {W X : World} {b : Nat} {cur : Array Value} {t : TypeId} (hW : W = X) (h : Rw X b cur t) : Rw W b cur t := hW ▸ h
theorem Below.ren {W X w : World} {B : Nat} (hW : W = X) (h : Below B w X) : Below B w W := hW ▸ h
end Go.Shr
