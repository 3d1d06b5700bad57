import Derived.Test.YtjbkjfefjhbolaakOpen
import Derived.Test.YtjbkjfefjhbolaakLCols14
set_option linter.all false
namespace Go.Proofs.Ytjbkjfefjhbolaa
open Go.ChangeShapes Go.WideShapes Go.ChangeAt Go.RowKit Go.Shr Go.Joins Go.Deep
section
variable {H : Type} {enc : TypeId × Value → H} {w : World} {held : Bool}
theorem zFB : ∃ f0 f1 : Field, Try.prog.underlying 44 = some (.struct #[f0, f1]) ∧ oneCellFields Try.prog #[f0, f1] = true ∧ f0.type = 3 ∧ f1.type = 9 :=
 ⟨_, _, Try.underlying44, by kernel_rfl, rfl, rfl⟩
set_option maxRecDepth 100000 in
theorem zGu {fuel : Nat} {y : List Value} {x : DataW H × List MemPlace} (hl : y.length = 2) (h : DataW.trod enc Try.prog w 0 (fun _ => true) held fuel 44 y = some x) :
  ∃ v : Vc, y = [.int .i64 v.n, .string v.s] := by
 obtain ⟨f0, f1, hs, hone, ht0, ht1⟩ := zFB
 obtain ⟨y0, y1, n, _, _, h0, h1⟩ := trod_struct2 hs h
 obtain ⟨o0, k0⟩ := hone_of hone 0 f0 rfl
 obtain ⟨o1, k1⟩ := hone_of hone 1 f1 rfl
 match y, hl with
 | [c0, c1], _ =>
  rw [k0, o0, ht0] at h0
  rw [k1, o1, ht1] at h1
  obtain ⟨z, hz, _, _⟩ := DataW.trod_int Try.underlying3 h0
  obtain ⟨s, hs2, _, _⟩ := DataW.trod_string Try.underlying9 h1
  simp at hz hs2
  subst hz; subst hs2
  exact ⟨⟨z, s⟩, rfl⟩
set_option maxRecDepth 100000 in
theorem zKy {fuel : Nat} {y : List Value} {x : DataW H × List MemPlace} (h : DataW.trod enc Try.prog w 0 (fun _ => true) held fuel 22 y = some x) :
  ∃ (a : Option Addr) (cap : Nat) (z : List Int), y = [.slice a z.length cap] ∧ Sl (fun b => b < w.heap.size) w 1 a z.length cap (zQ z) := by
 obtain ⟨a, n, cap, ys, hcs, hl, hy, hsl⟩ := zAJ Try.underlying22 (size := 1) (by kernel_rfl) (by decide) h
 obtain ⟨z, h1, h2⟩ := zFj (c := fun x : Int => [Value.int .i64 x]) ys (fun y hyy => by
  obtain ⟨h3, f', x', _, h4⟩ := hy y hyy
  obtain ⟨v, hv, _, _⟩ := DataW.trod_int Try.underlying3 h4
  exact ⟨v, hv⟩)
 have e : z.flatMap (fun x : Int => [Value.int .i64 x]) = zQ z := by
  clear h1 h2 hsl
  induction z with
  | nil => rfl
  | cons b l ih => simpa [zQ] using ih
 rw [h2, e] at hsl
 have hn : n = z.length := by omega
 subst hn
 exact ⟨a, cap, z, hcs, hsl⟩
set_option maxRecDepth 100000 in
theorem zLn {fuel : Nat} {y : List Value} {x : DataW H × List MemPlace} (h : DataW.trod enc Try.prog w 0 (fun _ => true) held fuel 40 y = some x) :
  ∃ (a : Option Addr) (cap : Nat) (z : List Vc), y = [.slice a z.length cap] ∧ Sl (fun b => b < w.heap.size) w 2 a z.length cap (vcs z) := by
 obtain ⟨a, n, cap, ys, hcs, hl, hy, hsl⟩ := zAJ Try.underlying40 (size := 2) (by kernel_rfl) (by decide) h
 obtain ⟨z, h1, h2⟩ := zFj (c := fun x : Vc => [Value.int .i64 x.n, .string x.s]) ys (fun y hyy => by
  obtain ⟨h3, f', x', _, h4⟩ := hy y hyy
  exact zGu h3 h4)
 rw [h2] at hsl
 have hn : n = z.length := by omega
 subst hn
 exact ⟨a, cap, z, hcs, hsl⟩
theorem zGZ : ∃ f0 f1 f2 : Field, Try.prog.underlying 42 = some (.struct #[f0, f1, f2]) ∧ oneCellFields Try.prog #[f0, f1, f2] = true ∧ f0.type = 22 ∧ f1.type = 22 ∧ f2.type = 40 :=
 ⟨_, _, _, Try.underlying42, by kernel_rfl, rfl, rfl, rfl⟩
set_option maxRecDepth 100000 in
theorem zIh {fuel : Nat} {y : List Value} {x : DataW H × List MemPlace} (hl : y.length = 3) (h : DataW.trod enc Try.prog w 0 (fun _ => true) held fuel 42 y = some x) :
  ∃ (c : Cl) (a0 : Option Addr) (c0 : Nat) (a1 : Option Addr) (c1 : Nat) (a2 : Option Addr) (c2 : Nat), y = [.slice a0 c.r.length c0, .slice a1 c.d.length c1, .slice a2 c.v.length c2] ∧ zBi (fun b => b < w.heap.size) w c a0 c0 a1 c1 a2 c2 := by
 obtain ⟨f0, f1, f2, hs, hone, ht0, ht1, ht2⟩ := zGZ
 obtain ⟨xs, n, hn, _, _, hlen, hff⟩ := DataW.trod_struct hs h
 obtain ⟨o0, k0⟩ := hone_of hone 0 f0 rfl
 obtain ⟨o1, k1⟩ := hone_of hone 1 f1 rfl
 obtain ⟨o2, k2⟩ := hone_of hone 2 f2 rfl
 match y, hl, xs, hlen with
 | [c0, c1, c2], _, [x0, x1, x2], _ =>
  have h0 : DataW.trod enc Try.prog w 0 (fun _ => true) held n 22 [c0] = some x0 := by have := hff 0 f0 rfl; rw [k0, o0, ht0] at this; simpa using this
  have h1 : DataW.trod enc Try.prog w 0 (fun _ => true) held n 22 [c1] = some x1 := by have := hff 1 f1 rfl; rw [k1, o1, ht1] at this; simpa using this
  have h2 : DataW.trod enc Try.prog w 0 (fun _ => true) held n 40 [c2] = some x2 := by have := hff 2 f2 rfl; rw [k2, o2, ht2] at this; simpa using this
  obtain ⟨a0, p0, r, e0, s0⟩ := zKy h0
  obtain ⟨a1, p1, d, e1, s1⟩ := zKy h1
  obtain ⟨a2, p2, v, e2, s2⟩ := zLn h2
  simp at e0 e1 e2
  subst e0; subst e1; subst e2
  exact ⟨⟨r, d, v⟩, a0, p0, a1, p1, a2, p2, rfl, ⟨s0, s1, s2⟩⟩
theorem zKz : ∀ (ys : List (List Value)), (∀ y ∈ ys, ∃ (c : Cl) (a0 : Option Addr) (c0 : Nat) (a1 : Option Addr) (c1 : Nat) (a2 : Option Addr) (c2 : Nat), y = [.slice a0 c.r.length c0, .slice a1 c.d.length c1, .slice a2 c.v.length c2] ∧ zBi (fun b => b < w.heap.size) w c a0 c0 a1 c1 a2 c2) → ∃ L : List Cl, HdG (fun b => b < w.heap.size) w L ys.flatten
 | [], _ => ⟨[], rfl⟩
 | y :: ys, h => by
  obtain ⟨c, a0, c0, a1, c1, a2, c2, rfl, hc⟩ := h _ List.mem_cons_self
  obtain ⟨L, hL⟩ := zKz ys (fun z hz => h z (List.mem_cons_of_mem _ hz))
  exact ⟨c :: L, a0, c0, a1, c1, a2, c2, ys.flatten, by simp, hc, hL⟩
set_option maxRecDepth 100000 in
theorem zH3 {a : Option Addr} {n cap : Nat} {d : DataW H} {p : List MemPlace} (h : DataW.Trod enc Try.prog w 0 (fun _ => true) held 30 (.slice a n cap) d p) :
  ∃ (L : List Cl) (xs : List Value), xE w a n cap L xs := by
 obtain ⟨fuel, hf⟩ := h
 obtain ⟨a', n', cap', ys, hcs, hl, hy, hsl⟩ := zAJ Try.underlying30 (size := 3) (by kernel_rfl) (by decide) hf
 simp [Value.cells] at hcs
 obtain ⟨rfl, rfl, rfl⟩ := hcs
 obtain ⟨L, hL⟩ := zKz (w := w) ys (fun y hyy => by
  obtain ⟨h3, f', x', _, h4⟩ := hy y hyy
  exact zIh h3 h4)
 exact ⟨L, _, hsl, hL⟩
end
end Go.Proofs.Ytjbkjfefjhbolaa
