/-
  What a statement's arguments are: trees.
-/
import Derived.Test.YtibhcibcfommeaaProg
import Derived.Test.YtibhcibcfommeaaOpen
import Derived.Test.YtibhcibcfommeaaFitP
import Derived.Lib.SmallJoins
namespace Go.Proofs.Ytibhcibcfommeaa
open Go.ChangeShapes Go.WideShapes Go.ChangeAt Go.RowKit Go.Shr Go.Joins Go.Deep
section
variable {H : Type} {enc : TypeId × Value → H} {w : World} {held : Bool}
theorem tree_fields : ∃ f0 f1 f2 : Field, Try.prog.underlying 29 = some (.struct #[f0, f1, f2]) ∧ oneCellFields Try.prog #[f0, f1, f2] = true ∧ f0.type = 3 ∧ f1.type = 9 ∧ f2.type = 27 :=
  ⟨_, _, _, Try.underlying29, by kernel_rfl, rfl, rfl, rfl⟩
theorem rows_of : ∀ (ys : List (List Value)), (∀ y ∈ ys, ∃ (t : Tr) (c0 c1 c2 : Value), y = [c0, c1, c2] ∧ TrAt w t y) → ∃ l : List Tr, l.length = ys.length ∧ RowAt w l ys.flatten
  | [], _ => ⟨[], rfl, by simp [RowAt]⟩
  | y :: ys, h => by
    obtain ⟨t, c0, c1, c2, rfl, ht⟩ := h _ List.mem_cons_self
    obtain ⟨l, h1, h2⟩ := rows_of ys (fun z hz => h z (List.mem_cons_of_mem _ hz))
    refine ⟨t :: l, by simp [h1], ?_⟩
    simp only [RowAt, List.flatten_cons]
    exact ⟨c0, c1, c2, ys.flatten, rfl, ht, h2⟩
theorem kids_of : ∀ (ys : List (List Value)), (∀ y ∈ ys, ∃ (a : Option Addr) (m cap : Nat) (zs : List Value) (l : List Tr), y = [.slice a m cap] ∧ m = l.length ∧ Sl (fun b => b < w.heap.size) w 3 a m cap zs ∧ RowAt w l zs) → ∃ ks : List (List Tr), ks.length = ys.length ∧ KidAt w ks ys.flatten
  | [], _ => ⟨[], rfl, by simp [KidAt]⟩
  | y :: ys, h => by
    obtain ⟨a, m, cap, zs, l, rfl, h1, h2, h3⟩ := h _ List.mem_cons_self
    obtain ⟨ks, h4, h5⟩ := kids_of ys (fun z hz => h z (List.mem_cons_of_mem _ hz))
    refine ⟨l :: ks, by simp [h4], ?_⟩
    simp only [KidAt, List.flatten_cons]
    exact ⟨a, m, cap, zs, ys.flatten, rfl, h1, h2, h3, h5⟩
set_option maxRecDepth 100000 in
theorem trod_tree : ∀ (N fuel : Nat), fuel ≤ N → ∀ (y : List Value) (x : DataW H × List MemPlace), y.length = 3 → DataW.trod enc Try.prog w 0 (fun _ => true) held fuel 29 y = some x → ∃ (t : Tr) (c0 c1 c2 : Value), y = [c0, c1, c2] ∧ TrAt w t y := by
  intro N
  induction N with
  | zero =>
    intro fuel hf y x hl h
    obtain ⟨f0, f1, f2, hs, hone, ht0, ht1, ht2⟩ := tree_fields
    obtain ⟨xs, n, hn, _⟩ := DataW.trod_struct hs h
    omega
  | succ N ih =>
    intro fuel hf y x hl h
    obtain ⟨f0, f1, f2, hs, hone, ht0, ht1, ht2⟩ := tree_fields
    obtain ⟨xs, n, hn, _, _, hlen, hff⟩ := DataW.trod_struct hs h
    have hn' : n ≤ N := by omega
    obtain ⟨o0, k0⟩ := hone_of hone 0 f0 rfl
    obtain ⟨o1, k1⟩ := hone_of hone 1 f1 rfl
    obtain ⟨o2, k2⟩ := hone_of hone 2 f2 rfl
    match y, hl, xs, hlen with
    | [c0, c1, c2], _, [x0, x1, x2], _ =>
      have h0 : DataW.trod enc Try.prog w 0 (fun _ => true) held n 3 [c0] = some x0 := by have := hff 0 f0 rfl; rw [k0, o0, ht0] at this; simpa using this
      have h1 : DataW.trod enc Try.prog w 0 (fun _ => true) held n 9 [c1] = some x1 := by have := hff 1 f1 rfl; rw [k1, o1, ht1] at this; simpa using this
      have h2 : DataW.trod enc Try.prog w 0 (fun _ => true) held n 27 [c2] = some x2 := by have := hff 2 f2 rfl; rw [k2, o2, ht2] at this; simpa using this
      obtain ⟨z, hz, _, _⟩ := DataW.trod_int Try.underlying3 h0
      obtain ⟨s, hs2, _, hs3⟩ := DataW.trod_string Try.underlying9 h1
      obtain ⟨a, m, cap, ys, hcs, hyl, hy, hsl⟩ := open_rows Try.underlying27 (size := 1) (by kernel_rfl) (by decide) h2
      simp at hz hs2 hcs
      subst hz; subst hs2; subst hcs
      obtain ⟨ks, hk1, hk2⟩ := kids_of (w := w) ys (fun y hyy => by
        obtain ⟨h3, f', x', hf', h4⟩ := hy y hyy
        obtain ⟨a', m', cap', zs, hcs', hzl, hz, hsl'⟩ := open_rows Try.underlying24 (size := 3) (by kernel_rfl) (by decide) h4
        obtain ⟨l, hl1, hl2⟩ := rows_of (w := w) zs (fun z hzz => by
          obtain ⟨h5, f'', x'', hf'', h6⟩ := hz z hzz
          exact ih f'' (by omega) z x'' h5 h6)
        exact ⟨a', m', cap', zs.flatten, l, hcs', by omega, hsl', hl2⟩)
      refine ⟨.mk z s ks, _, _, _, rfl, ?_⟩
      simp only [TrAt]
      exact ⟨a, m, cap, ys.flatten, rfl, hs3, hsl, hk2⟩
set_option maxRecDepth 100000 in
theorem open_tree {v : Value} {d : DataW H} {p : List MemPlace} {r : Reach} {b0 : Nat} (hv : Value.okWide Try.prog w r b0 29 v) (h : DataW.Trod enc Try.prog w 0 (fun _ => true) held 29 v d p) :
    ∃ (t : Tr) (a : Option Addr) (cap : Nat), v = .agg #[.int .i64 t.n, .string t.s, .slice a t.kids.length cap] ∧ TrAt w t [.int .i64 t.n, .string t.s, .slice a t.kids.length cap] := by
  obtain ⟨f0, f1, f2, hs, hone, ht0, ht1, ht2⟩ := tree_fields
  obtain ⟨cs, rfl, hsz⟩ := okWide_struct hs hv
  have hC : Try.prog.cellsOf 29 = 3 := by kernel_rfl
  rw [hC] at hsz
  obtain ⟨fuel, hf⟩ := h
  obtain ⟨t, c0, c1, c2, hy, ht⟩ := trod_tree fuel fuel (Nat.le_refl _) cs.toList _ (by simpa using hsz) (by simpa [Value.cells] using hf)
  rw [hy] at ht
  obtain ⟨a, m, cap, xs, hcs, hm, _⟩ := ht.parts
  simp at hcs
  obtain ⟨rfl, rfl, rfl⟩ := hcs
  subst hm
  refine ⟨t, a, cap, ?_, ht⟩
  have : cs = cs.toList.toArray := by simp
  rw [this, hy]
set_option maxRecDepth 100000 in
theorem open_trees {a : Option Addr} {n cap : Nat} {d : DataW H} {p : List MemPlace} (h : DataW.Trod enc Try.prog w 0 (fun _ => true) held 24 (.slice a n cap) d p) :
    ∃ (l : List Tr) (ys : List Value), n = l.length ∧ Sl (fun b => b < w.heap.size) w 3 a n cap ys ∧ RowAt w l ys := by
  obtain ⟨fuel, hf⟩ := h
  obtain ⟨a', n', cap', zs, hcs, hl, hz, hsl⟩ := open_rows Try.underlying24 (size := 3) (by kernel_rfl) (by decide) hf
  simp [Value.cells] at hcs
  obtain ⟨rfl, rfl, rfl⟩ := hcs
  obtain ⟨l, hl1, hl2⟩ := rows_of (w := w) zs (fun z hzz => by
    obtain ⟨h5, f'', x'', hf'', h6⟩ := hz z hzz
    exact trod_tree f'' f'' (Nat.le_refl _) z x'' h5 h6)
  exact ⟨l, _, by omega, hsl, hl2⟩
end
end Go.Proofs.Ytibhcibcfommeaa
