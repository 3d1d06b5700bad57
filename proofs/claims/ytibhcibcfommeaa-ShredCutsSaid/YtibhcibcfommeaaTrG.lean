/-
 Plain: trees in memory, in blocks of which something holds. No program in sight.
-/
import Derived.Test.YtibhcibcfommeaaFitP
import Derived.Test.YtibhcibcfommeaaRegJ
namespace Go.Shr
open Go.RowKit
/-- The world of a call under a new name. -/
theorem cgen {P : Program} {k : Nat} {args : Array Value} {W : World} {post : Ending → World → Prop} (h : ∀ W', W' = W → Calls P k args W' post) : Calls P k args W post := h W rfl
mutual
/-- A tree's cells; its blocks satisfy ok. -/
def TrG (ok : Nat → Prop) (w : World) : Tr → List Value → Prop
 | .mk n s ks, cs => ∃ a m cap xs, cs = [.int .i64 n, .string s, .slice a m cap] ∧ s.size ≤ maxLen ∧ Sl ok w 1 a m cap xs ∧ KidG ok w ks xs
/-- Lists of trees: their headers. -/
def KidG (ok : Nat → Prop) (w : World) : List (List Tr) → List Value → Prop
 | [], xs => xs = []
 | l :: r, xs => ∃ a m cap ys xr, xs = .slice a m cap :: xr ∧ m = l.length ∧ Sl ok w 3 a m cap ys ∧ RowG ok w l ys ∧ KidG ok w r xr
/-- Trees, one behind the other. -/
def RowG (ok : Nat → Prop) (w : World) : List Tr → List Value → Prop
 | [], ys => ys = []
 | t :: r, ys => ∃ c0 c1 c2 yr, ys = c0 :: c1 :: c2 :: yr ∧ TrG ok w t [c0, c1, c2] ∧ RowG ok w r yr
end
section
variable {ok ok' : Nat → Prop} {w w' : World}
mutual
theorem TrG.to (h : ∀ size a n cap xs, Sl ok w size a n cap xs → 0 < size → Sl ok' w' size a n cap xs) : ∀ (t : Tr) (cs : List Value), TrG ok w t cs → TrG ok' w' t cs
 | .mk n s ks, cs, h0 => by
  simp only [TrG] at h0 ⊢
  obtain ⟨a, m, cap, xs, h1, h2, h3, h4⟩ := h0
  exact ⟨a, m, cap, xs, h1, h2, h _ _ _ _ _ h3 (by decide), KidG.to h ks xs h4⟩
theorem KidG.to (h : ∀ size a n cap xs, Sl ok w size a n cap xs → 0 < size → Sl ok' w' size a n cap xs) : ∀ (ks : List (List Tr)) (xs : List Value), KidG ok w ks xs → KidG ok' w' ks xs
 | [], xs, h0 => by simpa only [KidG] using h0
 | l :: r, xs, h0 => by
  simp only [KidG] at h0 ⊢
  obtain ⟨a, m, cap, ys, xr, h1, h2, h3, h4, h5⟩ := h0
  exact ⟨a, m, cap, ys, xr, h1, h2, h _ _ _ _ _ h3 (by decide), RowG.to h l ys h4, KidG.to h r xr h5⟩
theorem RowG.to (h : ∀ size a n cap xs, Sl ok w size a n cap xs → 0 < size → Sl ok' w' size a n cap xs) : ∀ (l : List Tr) (ys : List Value), RowG ok w l ys → RowG ok' w' l ys
 | [], ys, h0 => by simpa only [RowG] using h0
 | t :: r, ys, h0 => by
  simp only [RowG] at h0 ⊢
  obtain ⟨c0, c1, c2, yr, h1, h2, h3⟩ := h0
  exact ⟨c0, c1, c2, yr, h1, TrG.to h t _ h2, RowG.to h r yr h3⟩
end
/-- What stays: other blocks may change, more may be said of the blocks. -/
theorem Sl.go {S : Nat → Prop} (hc : Chg S w w') (hn : ∀ k, k < w.heap.size → ok k → ¬ S k ∧ ok' k) {size : Nat} {a : Option Addr} {n cap : Nat} {xs : List Value} (h : Sl ok w size a n cap xs) (hsz : 0 < size) : Sl ok' w' size a n cap xs := by
 have h2 := h.mono (ok' := fun k => k < w.heap.size ∧ ok k) (fun k h1 h2 => ⟨h1, h2⟩) hsz
 refine ⟨h.len, h.le, h.max, h2.row.imp id fun ⟨b, off, h3, h4, h5⟩ => ?_⟩
 have h6 := hn b h4.1 h4.2
 exact ⟨b, off, h3, h6.2, fun j u hj => hc.keep (h5 j u hj) h6.1⟩
theorem TrG.go {S : Nat → Prop} (hc : Chg S w w') (hn : ∀ k, k < w.heap.size → ok k → ¬ S k ∧ ok' k) {t : Tr} {cs : List Value} (h : TrG ok w t cs) : TrG ok' w' t cs := TrG.to (fun _ _ _ _ _ h hs => Sl.go hc hn h hs) t cs h
theorem KidG.go {S : Nat → Prop} (hc : Chg S w w') (hn : ∀ k, k < w.heap.size → ok k → ¬ S k ∧ ok' k) {t : List (List Tr)} {cs : List Value} (h : KidG ok w t cs) : KidG ok' w' t cs := KidG.to (fun _ _ _ _ _ h hs => Sl.go hc hn h hs) t cs h
theorem RowG.go {S : Nat → Prop} (hc : Chg S w w') (hn : ∀ k, k < w.heap.size → ok k → ¬ S k ∧ ok' k) {t : List Tr} {cs : List Value} (h : RowG ok w t cs) : RowG ok' w' t cs := RowG.to (fun _ _ _ _ _ h hs => Sl.go hc hn h hs) t cs h
end
mutual
theorem TrG.at' {ok : Nat → Prop} {w : World} (hk : ∀ k, k < w.heap.size → ok k → k < w.heap.size) : ∀ (t : Tr) (cs : List Value), TrG ok w t cs → TrAt w t cs
 | .mk n s ks, cs, h0 => by
  simp only [TrG, TrAt] at h0 ⊢
  obtain ⟨a, m, cap, xs, h1, h2, h3, h4⟩ := h0
  exact ⟨a, m, cap, xs, h1, h2, h3.mono hk (by decide), KidG.at' hk ks xs h4⟩
theorem KidG.at' {ok : Nat → Prop} {w : World} (hk : ∀ k, k < w.heap.size → ok k → k < w.heap.size) : ∀ (ks : List (List Tr)) (xs : List Value), KidG ok w ks xs → KidAt w ks xs
 | [], xs, h0 => by simpa only [KidG, KidAt] using h0
 | l :: r, xs, h0 => by
  simp only [KidG, KidAt] at h0 ⊢
  obtain ⟨a, m, cap, ys, xr, h1, h2, h3, h4, h5⟩ := h0
  exact ⟨a, m, cap, ys, xr, h1, h2, h3.mono hk (by decide), RowG.at' hk l ys h4, KidG.at' hk r xr h5⟩
theorem RowG.at' {ok : Nat → Prop} {w : World} (hk : ∀ k, k < w.heap.size → ok k → k < w.heap.size) : ∀ (l : List Tr) (ys : List Value), RowG ok w l ys → RowAt w l ys
 | [], ys, h0 => by simpa only [RowG, RowAt] using h0
 | t :: r, ys, h0 => by
  simp only [RowG, RowAt] at h0 ⊢
  obtain ⟨c0, c1, c2, yr, h1, h2, h3⟩ := h0
  exact ⟨c0, c1, c2, yr, h1, TrG.at' hk t _ h2, RowG.at' hk r yr h3⟩
end
theorem TrG.at {ok : Nat → Prop} {w : World} {t : Tr} {cs : List Value} (h : TrG ok w t cs) : TrAt w t cs := TrG.at' (fun _ h _ => h) t cs h
theorem RowG.at {ok : Nat → Prop} {w : World} {t : List Tr} {cs : List Value} (h : RowG ok w t cs) : RowAt w t cs := RowG.at' (fun _ h _ => h) t cs h
mutual
theorem TrAt.g {w : World} : ∀ (t : Tr) (cs : List Value), TrAt w t cs → TrG (fun b => b < w.heap.size) w t cs
 | .mk n s ks, cs, h0 => by
  simp only [TrG, TrAt] at h0 ⊢
  obtain ⟨a, m, cap, xs, h1, h2, h3, h4⟩ := h0
  exact ⟨a, m, cap, xs, h1, h2, h3, KidAt.g ks xs h4⟩
theorem KidAt.g {w : World} : ∀ (ks : List (List Tr)) (xs : List Value), KidAt w ks xs → KidG (fun b => b < w.heap.size) w ks xs
 | [], xs, h0 => by simpa only [KidG, KidAt] using h0
 | l :: r, xs, h0 => by
  simp only [KidG, KidAt] at h0 ⊢
  obtain ⟨a, m, cap, ys, xr, h1, h2, h3, h4, h5⟩ := h0
  exact ⟨a, m, cap, ys, xr, h1, h2, h3, RowAt.g l ys h4, KidAt.g r xr h5⟩
theorem RowAt.g {w : World} : ∀ (l : List Tr) (ys : List Value), RowAt w l ys → RowG (fun b => b < w.heap.size) w l ys
 | [], ys, h0 => by simpa only [RowG, RowAt] using h0
 | t :: r, ys, h0 => by
  simp only [RowG, RowAt] at h0 ⊢
  obtain ⟨c0, c1, c2, yr, h1, h2, h3⟩ := h0
  exact ⟨c0, c1, c2, yr, h1, TrAt.g t _ h2, RowAt.g r yr h3⟩
end
section
variable {ok : Nat → Prop} {w : World}
theorem RowG.snoc {t : Tr} {c0 c1 c2 : Value} (ht : TrG ok w t [c0, c1, c2]) : ∀ {l : List Tr} {ys : List Value}, RowG ok w l ys → RowG ok w (l ++ [t]) (ys ++ [c0, c1, c2])
 | [], ys, h => by
  simp only [RowG] at h; subst h
  simp only [List.nil_append, RowG]
  exact ⟨c0, c1, c2, [], rfl, ht, rfl⟩
 | x :: r, ys, h => by
  simp only [RowG] at h
  obtain ⟨d0, d1, d2, yr, rfl, h2, h3⟩ := h
  simp only [List.cons_append, RowG]
  exact ⟨d0, d1, d2, _, rfl, h2, RowG.snoc ht h3⟩
theorem KidG.snoc {l : List Tr} {a : Option Addr} {m cap : Nat} {ys : List Value} (hm : m = l.length) (hs : Sl ok w 3 a m cap ys) (hr : RowG ok w l ys) : ∀ {ks : List (List Tr)} {xs : List Value}, KidG ok w ks xs → KidG ok w (ks ++ [l]) (xs ++ [.slice a m cap])
 | [], xs, h => by
  simp only [KidG] at h; subst h
  simp only [List.nil_append, KidG]
  exact ⟨a, m, cap, ys, [], rfl, hm, hs, hr, rfl⟩
 | x :: r, xs, h => by
  simp only [KidG] at h
  obtain ⟨b, n, c, zs, xr, rfl, h2, h3, h4, h5⟩ := h
  simp only [List.cons_append, KidG]
  exact ⟨b, n, c, zs, _, rfl, h2, h3, h4, KidG.snoc hm hs hr h5⟩
theorem KidG.len : ∀ {ks : List (List Tr)} {xs : List Value}, KidG ok w ks xs → xs.length = ks.length
 | [], xs, h => by simp only [KidG] at h; subst h; rfl
 | l :: r, xs, h => by
  simp only [KidG] at h
  obtain ⟨a, m, cap, ys, xr, rfl, _, _, _, h5⟩ := h
  simp [KidG.len h5]
theorem RowG.len : ∀ {l : List Tr} {ys : List Value}, RowG ok w l ys → ys.length = l.length * 3
 | [], xs, h => by simp only [RowG] at h; subst h; rfl
 | t :: r, xs, h => by
  simp only [RowG] at h
  obtain ⟨c0, c1, c2, yr, rfl, _, h3⟩ := h
  have := RowG.len h3
  simp; omega
theorem TrG.mk' {t : Tr} {a : Option Addr} {m cap : Nat} {xs : List Value} (hs : t.s.size ≤ maxLen) (h : Sl ok w 1 a m cap xs) (hk : KidG ok w t.kids xs) : TrG ok w t [.int .i64 t.n, .string t.s, .slice a m cap] := by
 obtain ⟨n, s, ks⟩ := t
 simp only [TrG]
 exact ⟨a, m, cap, xs, rfl, hs, h, hk⟩
theorem TrG.leaf {n : Int} {s : ByteArray} (hs : s.size ≤ maxLen) : TrG ok w (.mk n s []) [.int .i64 n, .string s, .slice none 0 0] := by
 simp only [TrG, KidG]
 exact ⟨none, 0, 0, [], rfl, hs, Sl.nil _ _ _ _, rfl⟩
end
/-- Trees that are laid one behind the other in an owned row. -/
structure ORow (e : TypeId) (B : Nat) (w : World) (a : Option Addr) (n cap : Nat) (l : List Tr) (ys : List Value) : Prop where
 own : Own B w e 3 a n cap ys
 row : RowG (fun b => B ≤ b ∧ ¬ blk a b) w l ys
 lt : ∀ b, blk a b → b < w.heap.size
 len : n = l.length
/-- Lists of trees that are laid so. -/
structure OKid (e : TypeId) (B : Nat) (w : World) (a : Option Addr) (n cap : Nat) (ks : List (List Tr)) (xs : List Value) : Prop where
 own : Own B w e 1 a n cap xs
 kid : KidG (fun b => B ≤ b ∧ ¬ blk a b) w ks xs
 lt : ∀ b, blk a b → b < w.heap.size
 len : n = ks.length
section
variable {e : TypeId} {B : Nat} {w w' w3 : World} {a a3 : Option Addr} {n cap cap3 : Nat}
theorem ORow.nil (e : TypeId) (B : Nat) (w : World) : ORow e B w none 0 0 [] [] := ⟨Own.nil _ _ _ _, by simp only [RowG], (fun b ⟨_, _, h⟩ => by cases h), rfl⟩
theorem OKid.nil (e : TypeId) (B : Nat) (w : World) : OKid e B w none 0 0 [] [] := ⟨Own.nil _ _ _ _, by simp only [KidG], (fun b ⟨_, _, h⟩ => by cases h), rfl⟩
theorem Own.blt' {size : Nat} {xs : List Value} (h : Own B w e size a n cap xs) (hn : 0 < n) {k : Nat} (hk : blk a k) : B ≤ k ∧ k < w.heap.size := by
 obtain ⟨g, rfl, h1, h2, _⟩ := h.pos hn
 obtain ⟨_, _, e⟩ := hk
 cases e
 exact ⟨h1, h2⟩
theorem Own.chg' {size : Nat} {xs : List Value} {S : Nat → Prop} (h : Own B w e size a n cap xs) (hc : Chg S w w') (hn : ∀ k, B ≤ k → ¬ S k) : Own B w' e size a n cap xs := by
 refine ⟨h.len, h.le, h.max, h.row.imp id ?_⟩
 rintro ⟨g, cur, rfl, hB, hg, hs, ht⟩
 exact ⟨g, cur, rfl, hB, (hc.block g (Array.getElem?_eq_some_iff.1 hg).1 (hn g hB)).trans hg, hs, ht⟩
theorem ORow.chg {S : Nat → Prop} {l : List Tr} {ys : List Value} (h : ORow e B w a n cap l ys) (hc : Chg S w w') (hn : ∀ k, B ≤ k → ¬ S k) : ORow e B w' a n cap l ys :=
 ⟨h.own.chg' hc hn, h.row.go hc (fun k _ h => ⟨hn k h.1, h⟩), fun b hb => Nat.lt_of_lt_of_le (h.lt b hb) hc.size, h.len⟩
theorem OKid.chg {S : Nat → Prop} {l : List (List Tr)} {ys : List Value} (h : OKid e B w a n cap l ys) (hc : Chg S w w') (hn : ∀ k, B ≤ k → ¬ S k) : OKid e B w' a n cap l ys :=
 ⟨h.own.chg' hc hn, h.kid.go hc (fun k _ h => ⟨hn k h.1, h⟩), fun b hb => Nat.lt_of_lt_of_le (h.lt b hb) hc.size, h.len⟩
/-- What an append leaves of the trees that are there. -/
theorem Sl.grown (hlt : ∀ b, blk a b → b < w.heap.size) (hc : Chg (fun k => blk a k ∧ B ≤ k ∧ 0 < cap) w w3) (hn : ∀ k, blk a3 k → blk a k ∨ w.heap.size ≤ k) :
  ∀ k, k < w.heap.size → (B ≤ k ∧ ¬ blk a k) → ¬ (blk a k ∧ B ≤ k ∧ 0 < cap) ∧ (B ≤ k ∧ ¬ blk a3 k) := fun k hk h =>
 ⟨fun h2 => h.2 h2.1, h.1, fun h2 => by rcases hn k h2 with h3 | h3; exact h.2 h3; omega⟩
theorem ORow.push {l : List Tr} {ys : List Value} {t : Tr} {c0 c1 c2 : Value} (h : ORow e B w a n cap l ys) (ht : TrG (fun b => B ≤ b ∧ ¬ blk a b) w t [c0, c1, c2])
  (ho : Own B w3 e 3 a3 (n + 1) cap3 (ys ++ [c0, c1, c2])) (hc : Chg (fun k => blk a k ∧ B ≤ k ∧ 0 < cap) w w3) (hn : ∀ k, blk a3 k → blk a k ∨ w.heap.size ≤ k) : ORow e B w3 a3 (n + 1) cap3 (l ++ [t]) (ys ++ [c0, c1, c2]) := by
 have hg := Sl.grown h.lt hc hn
 exact ⟨ho, RowG.snoc (ht.go hc hg) (h.row.go hc hg), fun b hb => (ho.blt' (by omega) hb).2, by simp [h.len]⟩
theorem OKid.push {ks : List (List Tr)} {xs : List Value} {l : List Tr} {al : Option Addr} {m cl : Nat} {ys : List Value} (h : OKid e B w a n cap ks xs) (hm : m = l.length) (hs : Sl (fun b => B ≤ b ∧ ¬ blk a b) w 3 al m cl ys) (hr : RowG (fun b => B ≤ b ∧ ¬ blk a b) w l ys)
  (ho : Own B w3 e 1 a3 (n + 1) cap3 (xs ++ [.slice al m cl])) (hc : Chg (fun k => blk a k ∧ B ≤ k ∧ 0 < cap) w w3) (hn : ∀ k, blk a3 k → blk a k ∨ w.heap.size ≤ k) : OKid e B w3 a3 (n + 1) cap3 (ks ++ [l]) (xs ++ [.slice al m cl]) := by
 have hg := Sl.grown h.lt hc hn
 exact ⟨ho, KidG.snoc hm (hs.go hc hg (by decide)) (hr.go hc hg) (h.kid.go hc hg), fun b hb => (ho.blt' (by omega) hb).2, by simp [h.len]⟩
/-- An owned row as it is read. -/
theorem ORow.sl {l : List Tr} {ys : List Value} (h : ORow e B w a n cap l ys) : Sl (fun b => B ≤ b) w 3 a n cap ys ∧ RowG (fun b => B ≤ b) w l ys :=
 ⟨h.own.sl.mono (fun k _ h => h.1) (by decide), h.row.go (Chg.refl (fun _ => False) w) (fun k _ h => ⟨fun h => h, h.1⟩)⟩
theorem OKid.sl {ks : List (List Tr)} {xs : List Value} (h : OKid e B w a n cap ks xs) : Sl (fun b => B ≤ b) w 1 a n cap xs ∧ KidG (fun b => B ≤ b) w ks xs :=
 ⟨h.own.sl.mono (fun k _ h => h.1) (by decide), h.kid.go (Chg.refl (fun _ => False) w) (fun k _ h => ⟨fun h => h, h.1⟩)⟩
end
end Go.Shr
