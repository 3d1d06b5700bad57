/-
 Plain: trees; trees in memory. No program in sight. Plain: what is wrong with a record: small laws.
-/
import Derived.Test.YtibhcibcfommeaaSchP
import Derived.Test.YtibhcibcfommeaaSch3
set_option linter.unusedSimpArgs false
namespace Go.Shr
open Go.RowKit
inductive Tr where
 | mk (n : Int) (s : ByteArray) (kids : List (List Tr))
def Tr.n : Tr → Int | .mk n _ _ => n
def Tr.s : Tr → ByteArray | .mk _ s _ => s
def Tr.kids : Tr → List (List Tr) | .mk _ _ k => k
mutual
def Tr.size : Tr → Nat
 | .mk _ _ ks => 1 + sizeLL ks
def sizeLL : List (List Tr) → Nat
 | [] => 0
 | l :: r => sizeL l + sizeLL r
def sizeL : List Tr → Nat
 | [] => 0
 | t :: r => t.size + sizeL r
end
theorem sizeL_mem {t : Tr} : ∀ {l : List Tr}, t ∈ l → t.size ≤ sizeL l
 | x :: l, h => by
  rcases List.mem_cons.1 h with rfl | h
  ·simp [sizeL]
  ·have := sizeL_mem h; simp only [sizeL]; omega
theorem sizeLL_mem {x : List Tr} : ∀ {l : List (List Tr)}, x ∈ l → sizeL x ≤ sizeLL l
 | y :: l, h => by
  rcases List.mem_cons.1 h with rfl | h
  ·simp [sizeLL]
  ·have := sizeLL_mem h; simp only [sizeLL]; omega
theorem kid_size {t : Tr} {x : List Tr} {y : Tr} (hx : x ∈ t.kids) (hy : y ∈ x) : y.size < t.size := by
 obtain ⟨n, s, ks⟩ := t
 have h1 := sizeL_mem hy
 have h2 := sizeLL_mem (show x ∈ ks from hx)
 simp only [Tr.size]; omega
mutual
/-- A tree's cells. -/
def TrAt (w : World) : Tr → List Value → Prop
 | .mk n s ks, cs => ∃ a m cap xs, cs = [.int .i64 n, .string s, .slice a m cap] ∧ s.size ≤ maxLen ∧ Sl (fun b => b < w.heap.size) w 1 a m cap xs ∧ KidAt w ks xs
/-- Lists of trees: their headers. -/
def KidAt (w : World) : List (List Tr) → List Value → Prop
 | [], xs => xs = []
 | l :: r, xs => ∃ a m cap ys xr, xs = .slice a m cap :: xr ∧ m = l.length ∧ Sl (fun b => b < w.heap.size) w 3 a m cap ys ∧ RowAt w l ys ∧ KidAt w r xr
/-- Trees, one behind the other. -/
def RowAt (w : World) : List Tr → List Value → Prop
 | [], ys => ys = []
 | t :: r, ys => ∃ c0 c1 c2 yr, ys = c0 :: c1 :: c2 :: yr ∧ TrAt w t [c0, c1, c2] ∧ RowAt w r yr
end
mutual
theorem TrAt.below {w w' : World} (hb : Below w.heap.size w w') : ∀ (t : Tr) (cs : List Value), TrAt w t cs → TrAt w' t cs
 | .mk n s ks, cs, h => by
  simp only [TrAt] at h ⊢
  obtain ⟨a, m, cap, xs, h1, h2, h3, h4⟩ := h
  exact ⟨a, m, cap, xs, h1, h2, slb h3 hb, KidAt.below hb ks xs h4⟩
theorem KidAt.below {w w' : World} (hb : Below w.heap.size w w') : ∀ (ks : List (List Tr)) (xs : List Value), KidAt w ks xs → KidAt w' ks xs
 | [], xs, h => by simpa only [KidAt] using h
 | l :: r, xs, h => by
  simp only [KidAt] at h ⊢
  obtain ⟨a, m, cap, ys, xr, h1, h2, h3, h4, h5⟩ := h
  exact ⟨a, m, cap, ys, xr, h1, h2, slb h3 hb, RowAt.below hb l ys h4, KidAt.below hb r xr h5⟩
theorem RowAt.below {w w' : World} (hb : Below w.heap.size w w') : ∀ (l : List Tr) (ys : List Value), RowAt w l ys → RowAt w' l ys
 | [], ys, h => by simpa only [RowAt] using h
 | t :: r, ys, h => by
  simp only [RowAt] at h ⊢
  obtain ⟨c0, c1, c2, yr, h1, h2, h3⟩ := h
  exact ⟨c0, c1, c2, yr, h1, TrAt.below hb t _ h2, RowAt.below hb r yr h3⟩
end
theorem KidAt.len {w : World} : ∀ {ks : List (List Tr)} {xs : List Value}, KidAt w ks xs → xs.length = ks.length
 | [], xs, h => by simp only [KidAt] at h; subst h; rfl
 | l :: r, xs, h => by
  simp only [KidAt] at h
  obtain ⟨a, m, cap, ys, xr, rfl, _, _, _, h5⟩ := h
  simp [KidAt.len h5]
theorem RowAt.len {w : World} : ∀ {l : List Tr} {ys : List Value}, RowAt w l ys → ys.length = l.length * 3
 | [], xs, h => by simp only [RowAt] at h; subst h; rfl
 | t :: r, xs, h => by
  simp only [RowAt] at h
  obtain ⟨c0, c1, c2, yr, rfl, _, h3⟩ := h
  have := RowAt.len h3
  simp; omega
/-- One list among them. -/
theorem KidAt.get {w : World} : ∀ {ks : List (List Tr)} {xs : List Value} (_ : KidAt w ks xs) (k : Nat) (hk : k < ks.length),
  ∃ a cap ys, xs[k]? = some (.slice a (ks[k]).length cap) ∧ Sl (fun b => b < w.heap.size) w 3 a (ks[k]).length cap ys ∧ RowAt w ks[k] ys
 | l :: r, xs, h, 0, _ => by
  simp only [KidAt] at h
  obtain ⟨a, m, cap, ys, xr, rfl, rfl, h3, h4, _⟩ := h
  exact ⟨a, cap, ys, rfl, h3, h4⟩
 | l :: r, xs, h, k + 1, hk => by
  simp only [KidAt] at h
  obtain ⟨a, m, cap, ys, xr, rfl, _, _, _, h5⟩ := h
  simpa using KidAt.get h5 k (by simpa using hk)
/-- One tree among them. -/
theorem RowAt.get {w : World} : ∀ {l : List Tr} {ys : List Value} (_ : RowAt w l ys) (k : Nat) (hk : k < l.length),
  ∃ a m cap xs, ys[k * 3]? = some (.int .i64 l[k].n) ∧ ys[k * 3 + 1]? = some (.string l[k].s) ∧ ys[k * 3 + 2]? = some (.slice a m cap) ∧ m = l[k].kids.length ∧ l[k].s.size ≤ maxLen ∧ Sl (fun b => b < w.heap.size) w 1 a m cap xs ∧ KidAt w l[k].kids xs
 | t :: r, ys, h, 0, _ => by
  simp only [RowAt] at h
  obtain ⟨c0, c1, c2, yr, rfl, h2, _⟩ := h
  obtain ⟨n, s, ks⟩ := t
  simp only [TrAt] at h2
  obtain ⟨a, m, cap, xs, hc, h3, h4, h5⟩ := h2
  simp at hc
  obtain ⟨rfl, rfl, rfl⟩ := hc
  refine ⟨a, m, cap, xs, rfl, rfl, rfl, ?_, h3, h4, h5⟩
  have := h4.len; have := h5.len
  simp only [List.getElem_cons_zero, Tr.kids]; omega
 | t :: r, ys, h, k + 1, hk => by
  simp only [RowAt] at h
  obtain ⟨c0, c1, c2, yr, rfl, _, h3⟩ := h
  rw [show (k + 1) * 3 = k * 3 + 1 + 1 + 1 by omega]
  simpa using RowAt.get h3 k (by simpa using hk)
theorem TrAt.mk' {w : World} {t : Tr} {a : Option Addr} {m cap : Nat} {xs : List Value} (hs : t.s.size ≤ maxLen) (h : Sl (fun b => b < w.heap.size) w 1 a m cap xs) (hk : KidAt w t.kids xs) : TrAt w t [.int .i64 t.n, .string t.s, .slice a m cap] := by
 obtain ⟨n, s, ks⟩ := t
 simp only [TrAt]
 exact ⟨a, m, cap, xs, rfl, hs, h, hk⟩
theorem TrAt.parts {w : World} {t : Tr} {cs : List Value} (h : TrAt w t cs) : ∃ a m cap xs, cs = [.int .i64 t.n, .string t.s, .slice a m cap] ∧ m = t.kids.length ∧ t.s.size ≤ maxLen ∧ Sl (fun b => b < w.heap.size) w 1 a m cap xs ∧ KidAt w t.kids xs := by
 obtain ⟨n, s, ks⟩ := t
 simp only [TrAt] at h
 obtain ⟨a, m, cap, xs, h1, h2, h3, h4⟩ := h
 refine ⟨a, m, cap, xs, h1, ?_, h2, h3, h4⟩
 have := h3.len; have := h4.len
 simp only [Tr.kids]; omega
/-- What is wrong with a leaf's value. -/
def leafT (kind : Int) (t : Tr) : Int :=
 if 0 < t.kids.length ∨ (kind = 4 ∧ t.n ≠ 0) ∨ (kind ≠ 4 ∧ t.s.toList ≠ []) then 13
 else if kind = 1 then (if t.n < 0 ∨ 1 < t.n then 14 else 0)
 else if kind = 2 then (if t.n < -2147483648 ∨ 2147483647 < t.n then 14 else 0)
 else if kind = 3 then 0
 else if 100 < t.s.size then 5 else 0
/-- Of a field: how often it is there, as far as it may be. -/
def repT (rep : Int) (m : Nat) : Int := if (rep ≠ 2 ∧ 1 < m) ∨ (rep = 0 ∧ m = 0) then 13 else if 50 < m then 4 else 0
/-- The first that is not 0. -/
def firstE : List Int → Int
 | [] => 0
 | e :: r => if e = 0 then firstE r else e
def Fl.none : Fl := ⟨ByteArray.empty, 0, 0, 0⟩
def flAt (l : List Fl) (i : Int) : Fl := l.getD i.toNat Fl.none
mutual
/-- What is wrong with a field's value; K: of each field the fields in it. -/
def fitT (l : List Fl) (K : Int → List Int) : Tr → Int → Int
 | .mk n s ks, i =>
  if (flAt l i).kind ≠ 0 then leafT (flAt l i).kind (.mk n s ks)
  else if n ≠ 0 ∨ s.toList ≠ [] ∨ ks.length ≠ (K i).length then 13
  else fitK l K ks (K i)
def fitK (l : List Fl) (K : Int → List Int) : List (List Tr) → List Int → Int
 | [], _ => 0
 | x :: r, js => if repT (flAt l (js.headD 0)).rep x.length ≠ 0 then repT (flAt l (js.headD 0)).rep x.length else
   if fitX l K x (js.headD 0) ≠ 0 then fitX l K x (js.headD 0) else fitK l K r js.tail
def fitX (l : List Fl) (K : Int → List Int) : List Tr → Int → Int
 | [], _ => 0
 | t :: r, i => if fitT l K t i ≠ 0 then fitT l K t i else fitX l K r i
end
/-- What is wrong with all that is there of a field. -/
def fitA (l : List Fl) (K : Int → List Int) (x : List Tr) (i : Int) : Int := if repT (flAt l i).rep x.length ≠ 0 then repT (flAt l i).rep x.length else fitX l K x i
theorem fitK_cons (l : List Fl) (K : Int → List Int) (x : List Tr) (r : List (List Tr)) (js : List Int) : fitK l K (x :: r) js = if fitA l K x (js.headD 0) ≠ 0 then fitA l K x (js.headD 0) else fitK l K r js.tail := by
 simp only [fitK, fitA]
 by_cases h : repT (flAt l (js.headD 0)).rep x.length = 0
 ·simp only [h, ne_eq, not_true_eq_false, if_false]
 ·simp only [h, ne_eq, not_false_eq_true, if_true]
theorem fitT_eq (l : List Fl) (K : Int → List Int) (t : Tr) (i : Int) : fitT l K t i = if (flAt l i).kind ≠ 0 then leafT (flAt l i).kind t else if t.n ≠ 0 ∨ t.s.toList ≠ [] ∨ t.kids.length ≠ (K i).length then 13 else fitK l K t.kids (K i) := by
 obtain ⟨n, s, ks⟩ := t
 simp only [fitT, Tr.n, Tr.s, Tr.kids]
 first | rfl | (congr 1; done) | (congr 2; done) | (split <;> (try rfl) <;> (split <;> rfl))
end Go.Shr
namespace Go.Proofs.Ytibhcibcfommeaa
open Go.RowKit Go.Shr
theorem str_len (s : ByteArray) : s.toList.length = s.size := by rw [ByteArray.toList_eq]; simp
/-- The schemas that are spoken of: kinds that there are, not too many fields. -/
structure Wf (l : List Fl) : Prop where
 len : l.length ≤ 1000
 pos : 0 < l.length
 kids : ∀ x ∈ l, x.kids ≤ 1000
 kind : ∀ x ∈ l, 0 ≤ x.kind ∧ x.kind ≤ 4
def KF (l : List Fl) (i : Int) : List Int := kidsOf (par l) i
theorem fitX_drop (l : List Fl) (K : Int → List Int) (x : List Tr) (i : Int) (k : Nat) (h : k < x.length) : fitX l K (x.drop k) i = if fitT l K x[k] i ≠ 0 then fitT l K x[k] i else fitX l K (x.drop (k + 1)) i := by
 rw [List.drop_eq_getElem_cons h]; simp only [fitX]
theorem fitK_drop (l : List Fl) (K : Int → List Int) (ks : List (List Tr)) (js : List Int) (k : Nat) (h : k < ks.length) (hj : k < js.length) : fitK l K (ks.drop k) (js.drop k) = if fitA l K ks[k] js[k] ≠ 0 then fitA l K ks[k] js[k] else fitK l K (ks.drop (k + 1)) (js.drop (k + 1)) := by
 rw [List.drop_eq_getElem_cons h, List.drop_eq_getElem_cons hj, fitK_cons]; rfl
end Go.Proofs.Ytibhcibcfommeaa
