/-
  Plain: trees with one thing turned; rows of trees in which one is set.
-/
import Derived.Test.YtdgcgkmejejccaaMkBd
import Derived.Test.YtdgcgkmejejccaaLit8
set_option linter.unusedSimpArgs false
namespace Go.Shr
open Go.RowKit
section
variable {ok : Nat → Prop} {w : World}
theorem KidG.get : ∀ {ks : List (List Tr)} {xs : List Value} (_ : KidG ok w ks xs) (k : Nat) (hk : k < ks.length),
    ∃ a cap ys, xs[k]? = some (.slice a (ks[k]).length cap) ∧ Sl ok w 3 a (ks[k]).length cap ys ∧ RowG ok w ks[k] ys
  | l :: r, xs, h, 0, _ => by
    simp only [KidG] at h
    obtain ⟨a, m, cap, ys, xr, rfl, rfl, h3, h4, _⟩ := h
    exact ⟨a, cap, ys, rfl, h3, h4⟩
  | l :: r, xs, h, k + 1, hk => by
    simp only [KidG] at h
    obtain ⟨a, m, cap, ys, xr, rfl, _, _, _, h5⟩ := h
    simpa using KidG.get h5 k (by simpa using hk)
theorem KidG.set {l : List Tr} {a : Option Addr} {m cap : Nat} {ys : List Value} (hm : m = l.length) (hs : Sl ok w 3 a m cap ys) (hr : RowG ok w l ys) : ∀ {ks : List (List Tr)} {xs : List Value} (_ : KidG ok w ks xs) (k : Nat), KidG ok w (ks.set k l) (xs.set k (.slice a m cap))
  | [], xs, h, k => by simp only [KidG] at h; subst h; simp [KidG]
  | x :: r, xs, h, 0 => by
    simp only [KidG] at h
    obtain ⟨b, n, c, zs, xr, rfl, h2, h3, h4, h5⟩ := h
    simp only [List.set_cons_zero, KidG]
    exact ⟨a, m, cap, ys, xr, rfl, hm, hs, hr, h5⟩
  | x :: r, xs, h, k + 1 => by
    simp only [KidG] at h
    obtain ⟨b, n, c, zs, xr, rfl, h2, h3, h4, h5⟩ := h
    simp only [List.set_cons_succ, KidG]
    exact ⟨b, n, c, zs, _, rfl, h2, h3, h4, KidG.set hm hs hr h5 k⟩
theorem RowG.get : ∀ {l : List Tr} {ys : List Value} (_ : RowG ok w l ys) (k : Nat) (hk : k < l.length),
    ∃ c0 c1 c2, ys[k * 3]? = some c0 ∧ ys[k * 3 + 1]? = some c1 ∧ ys[k * 3 + 2]? = some c2 ∧ TrG ok w l[k] [c0, c1, c2]
  | t :: r, ys, h, 0, _ => by
    simp only [RowG] at h
    obtain ⟨c0, c1, c2, yr, rfl, h2, _⟩ := h
    exact ⟨c0, c1, c2, rfl, rfl, rfl, h2⟩
  | t :: r, ys, h, k + 1, hk => by
    simp only [RowG] at h
    obtain ⟨c0, c1, c2, yr, rfl, _, h3⟩ := h
    rw [show (k + 1) * 3 = k * 3 + 1 + 1 + 1 by omega]
    simpa using RowG.get h3 k (by simpa using hk)
theorem RowG.set {t : Tr} {c0 c1 c2 : Value} (ht : TrG ok w t [c0, c1, c2]) : ∀ {l : List Tr} {ys : List Value} (_ : RowG ok w l ys) (k : Nat), RowG ok w (l.set k t) (((ys.set (k * 3) c0).set (k * 3 + 1) c1).set (k * 3 + 2) c2)
  | [], ys, h, k => by simp only [RowG] at h; subst h; simp [RowG]
  | x :: r, ys, h, 0 => by
    simp only [RowG] at h
    obtain ⟨d0, d1, d2, yr, rfl, h2, h3⟩ := h
    simp only [List.set_cons_zero, RowG]
    exact ⟨c0, c1, c2, yr, rfl, ht, h3⟩
  | x :: r, ys, h, k + 1 => by
    simp only [RowG] at h
    obtain ⟨d0, d1, d2, yr, rfl, h2, h3⟩ := h
    simp only [List.set_cons_succ, RowG]
    rw [show (k + 1) * 3 = k * 3 + 1 + 1 + 1 by omega]
    exact ⟨d0, d1, d2, _, rfl, h2, RowG.set ht h3 k⟩
end
theorem TrG.parts {ok : Nat → Prop} {w : World} {t : Tr} {cs : List Value} (h : TrG ok w t cs) : ∃ a m cap xs, cs = [.int .i64 t.n, .string t.s, .slice a m cap] ∧ m = t.kids.length ∧ t.s.size ≤ maxLen ∧ Sl ok w 1 a m cap xs ∧ KidG ok w t.kids xs := by
  obtain ⟨n, s, ks⟩ := t
  simp only [TrG] at h
  obtain ⟨a, m, cap, xs, h1, h2, h3, h4⟩ := h
  refine ⟨a, m, cap, xs, h1, ?_, h2, h3, h4⟩
  have := h3.len; have := h4.len
  simp only [Tr.kids]; omega
section
variable {e : TypeId} {B : Nat} {w : World} {a : Option Addr} {n cap : Nat}
theorem OKid.set {ks : List (List Tr)} {xs : List Value} {l : List Tr} {al : Option Addr} {m cl : Nat} {ys : List Value} {g : Nat} (h : OKid e B w a n cap ks xs) (ha : a = some ⟨g, 0, none⟩) (k : Nat) (hm : m = l.length) (hs : Sl (fun b => B ≤ b ∧ ¬ blk a b) w 3 al m cl ys) (hr : RowG (fun b => B ≤ b ∧ ¬ blk a b) w l ys) :
    OKid e B (w.setCell ⟨g, k, none⟩ (.slice al m cl)) a n cap (ks.set k l) (xs.set k (.slice al m cl)) := by
  have hc : Chg (fun b => blk a b) w (w.setCell ⟨g, k, none⟩ (.slice al m cl)) := (Chg.refl (fun b => blk a b) w).setCell (p := ⟨g, k, none⟩) (.inr (by subst ha; exact ⟨_, _, rfl⟩)) _
  exact ⟨h.own.stored ha k _, KidG.set hm (hs.go hc (fun b _ hb => ⟨hb.2, hb⟩) (by decide)) (hr.go hc (fun b _ hb => ⟨hb.2, hb⟩)) (h.kid.go hc (fun b _ hb => ⟨hb.2, hb⟩)) k, fun b hb => by simpa using h.lt b hb, by simp [h.len]⟩
theorem ORow.set {l : List Tr} {ys : List Value} {t : Tr} {c0 c1 c2 : Value} {g : Nat} (h : ORow e B w a n cap l ys) (ha : a = some ⟨g, 0, none⟩) (k : Nat) (ht : TrG (fun b => B ≤ b ∧ ¬ blk a b) w t [c0, c1, c2]) :
    ORow e B (((w.setCell ⟨g, k * 3, none⟩ c0).setCell ⟨g, k * 3 + 1, none⟩ c1).setCell ⟨g, k * 3 + 2, none⟩ c2) a n cap (l.set k t) (((ys.set (k * 3) c0).set (k * 3 + 1) c1).set (k * 3 + 2) c2) := by
  have hb : blk a g := by subst ha; exact ⟨_, _, rfl⟩
  have hc : Chg (fun b => blk a b) w (((w.setCell ⟨g, k * 3, none⟩ c0).setCell ⟨g, k * 3 + 1, none⟩ c1).setCell ⟨g, k * 3 + 2, none⟩ c2) := (((Chg.refl (fun b => blk a b) w).setCell (p := ⟨g, k * 3, none⟩) (.inr hb) _).setCell (p := ⟨g, k * 3 + 1, none⟩) (.inr hb) _).setCell (p := ⟨g, k * 3 + 2, none⟩) (.inr hb) _
  exact ⟨((h.own.stored ha _ _).stored ha _ _).stored ha _ _, RowG.set (ht.go hc (fun b _ hb => ⟨hb.2, hb⟩)) (h.row.go hc (fun b _ hb => ⟨hb.2, hb⟩)) k, fun b hb => by simpa using h.lt b hb, by simp [h.len]⟩
/-- Where the row lies does not matter. -/
theorem OKid.base {ks : List (List Tr)} {xs : List Value} (h : OKid e B w a n cap ks xs) : TrG (fun b => b < w.heap.size) w (.mk 0 ⟨#[]⟩ ks) [.int .i64 0, .string ⟨#[]⟩, .slice a n cap] := by
  have h2 := h.sl
  simp only [TrG]
  exact ⟨a, n, cap, xs, rfl, by decide, h2.1.mono (fun k hk _ => hk) (by decide), h2.2.go (Chg.refl (fun _ => False) w) (fun k hk _ => ⟨fun h => h, hk⟩)⟩
end
/-- Lists of trees whose blocks satisfy p, in an owned row. -/
structure GKid (p : Nat → Prop) (e : TypeId) (w : World) (a : Option Addr) (n cap : Nat) (ks : List (List Tr)) (xs : List Value) : Prop where
  own : Own 0 w e 1 a n cap xs
  kid : KidG (fun b => p b ∧ ¬ blk a b) w ks xs
  lt : ∀ b, blk a b → b < w.heap.size
  len : n = ks.length
structure GRow (p : Nat → Prop) (e : TypeId) (w : World) (a : Option Addr) (n cap : Nat) (l : List Tr) (ys : List Value) : Prop where
  own : Own 0 w e 3 a n cap ys
  row : RowG (fun b => p b ∧ ¬ blk a b) w l ys
  lt : ∀ b, blk a b → b < w.heap.size
  len : n = l.length
section
variable {p : Nat → Prop} {e : TypeId} {w w' w3 : World} {a a3 : Option Addr} {n cap cap3 : Nat}
theorem GKid.chg {S : Nat → Prop} {ks : List (List Tr)} {xs : List Value} (h : GKid p e w a n cap ks xs) (hc : Chg S w w') (hn : ∀ k, k < w.heap.size → (p k ∨ blk a k) → ¬ S k) : GKid p e w' a n cap ks xs :=
  ⟨h.own.chg hc (fun k hk => hn k (h.lt k hk) (.inr hk)), h.kid.go hc (fun k hk h => ⟨hn k hk (.inl h.1), h⟩), fun b hb => Nat.lt_of_lt_of_le (h.lt b hb) hc.size, h.len⟩
theorem GRow.chg {S : Nat → Prop} {l : List Tr} {ys : List Value} (h : GRow p e w a n cap l ys) (hc : Chg S w w') (hn : ∀ k, k < w.heap.size → (p k ∨ blk a k) → ¬ S k) : GRow p e w' a n cap l ys :=
  ⟨h.own.chg hc (fun k hk => hn k (h.lt k hk) (.inr hk)), h.row.go hc (fun k hk h => ⟨hn k hk (.inl h.1), h⟩), fun b hb => Nat.lt_of_lt_of_le (h.lt b hb) hc.size, h.len⟩
theorem GKid.mono {p' : Nat → Prop} {ks : List (List Tr)} {xs : List Value} (h : GKid p e w a n cap ks xs) (hp : ∀ k, k < w.heap.size → p k → p' k) : GKid p' e w a n cap ks xs := ⟨h.own, h.kid.go (Chg.refl (fun _ => False) w) (fun k hk h => ⟨fun h => h, hp k hk h.1, h.2⟩), h.lt, h.len⟩
theorem GKid.below {ks : List (List Tr)} {xs : List Value} (h : GKid p e w a n cap ks xs) (hb : Below w.heap.size w w') : GKid p e w' a n cap ks xs := h.chg (Chg.ofBelow hb) (fun k hk _ h => by omega)
theorem GRow.below {l : List Tr} {ys : List Value} (h : GRow p e w a n cap l ys) (hb : Below w.heap.size w w') : GRow p e w' a n cap l ys := h.chg (Chg.ofBelow hb) (fun k hk _ h => by omega)
theorem GKid.set {ks : List (List Tr)} {xs : List Value} {l : List Tr} {al : Option Addr} {m cl : Nat} {ys : List Value} {g : Nat} (h : GKid p e w a n cap ks xs) (ha : a = some ⟨g, 0, none⟩) (k : Nat) (hm : m = l.length) (hs : Sl (fun b => p b ∧ ¬ blk a b) w 3 al m cl ys) (hr : RowG (fun b => p b ∧ ¬ blk a b) w l ys) :
    GKid p e (w.setCell ⟨g, k, none⟩ (.slice al m cl)) a n cap (ks.set k l) (xs.set k (.slice al m cl)) := by
  have hc : Chg (fun b => blk a b) w (w.setCell ⟨g, k, none⟩ (.slice al m cl)) := (Chg.refl (fun b => blk a b) w).setCell (p := ⟨g, k, none⟩) (.inr (by subst ha; exact ⟨_, _, rfl⟩)) _
  exact ⟨h.own.stored ha k _, KidG.set hm (hs.go hc (fun b _ hb => ⟨hb.2, hb⟩) (by decide)) (hr.go hc (fun b _ hb => ⟨hb.2, hb⟩)) (h.kid.go hc (fun b _ hb => ⟨hb.2, hb⟩)) k, fun b hb => by simpa using h.lt b hb, by simp [h.len]⟩
theorem GRow.set {l : List Tr} {ys : List Value} {t : Tr} {c0 c1 c2 : Value} {g : Nat} (h : GRow p e w a n cap l ys) (ha : a = some ⟨g, 0, none⟩) (k : Nat) (ht : TrG (fun b => p b ∧ ¬ blk a b) w t [c0, c1, c2]) :
    GRow p e (((w.setCell ⟨g, k * 3, none⟩ c0).setCell ⟨g, k * 3 + 1, none⟩ c1).setCell ⟨g, k * 3 + 2, none⟩ c2) a n cap (l.set k t) (((ys.set (k * 3) c0).set (k * 3 + 1) c1).set (k * 3 + 2) c2) := by
  have hb : blk a g := by subst ha; exact ⟨_, _, rfl⟩
  have hc : Chg (fun b => blk a b) w (((w.setCell ⟨g, k * 3, none⟩ c0).setCell ⟨g, k * 3 + 1, none⟩ c1).setCell ⟨g, k * 3 + 2, none⟩ c2) := (((Chg.refl (fun b => blk a b) w).setCell (p := ⟨g, k * 3, none⟩) (.inr hb) _).setCell (p := ⟨g, k * 3 + 1, none⟩) (.inr hb) _).setCell (p := ⟨g, k * 3 + 2, none⟩) (.inr hb) _
  exact ⟨((h.own.stored ha _ _).stored ha _ _).stored ha _ _, RowG.set (ht.go hc (fun b _ hb => ⟨hb.2, hb⟩)) (h.row.go hc (fun b _ hb => ⟨hb.2, hb⟩)) k, fun b hb => by simpa using h.lt b hb, by simp [h.len]⟩
theorem GKid.push {ks : List (List Tr)} {xs : List Value} {l : List Tr} {al : Option Addr} {m cl : Nat} {ys : List Value} (h : GKid p e w a n cap ks xs) (hm : m = l.length) (hs : Sl (fun b => p b ∧ ¬ blk a b) w 3 al m cl ys) (hr : RowG (fun b => p b ∧ ¬ blk a b) w l ys)
    (ho : Own 0 w3 e 1 a3 (n + 1) cap3 (xs ++ [.slice al m cl])) (hc : Chg (fun k => blk a k ∧ 0 ≤ k ∧ 0 < cap) w w3) (hn : ∀ k, blk a3 k → blk a k ∨ w.heap.size ≤ k) : GKid p e w3 a3 (n + 1) cap3 (ks ++ [l]) (xs ++ [.slice al m cl]) := by
  have hg : ∀ k, k < w.heap.size → (p k ∧ ¬ blk a k) → ¬ (blk a k ∧ 0 ≤ k ∧ 0 < cap) ∧ (p k ∧ ¬ blk a3 k) := fun k hk h => ⟨fun h2 => h.2 h2.1, h.1, fun h2 => by rcases hn k h2 with h3 | h3; exact h.2 h3; omega⟩
  exact ⟨ho, KidG.snoc hm (hs.go hc hg (by decide)) (hr.go hc hg) (h.kid.go hc hg), fun b hb => (ho.blt' (by omega) hb).2, by simp [h.len]⟩
/-- A tree whose lists they are. -/
theorem GKid.tree {ks : List (List Tr)} {xs : List Value} {nn : Int} {s : ByteArray} {q : Nat → Prop} (h : GKid p e w a n cap ks xs) (hs : s.size ≤ maxLen) (hq : ∀ k, k < w.heap.size → (p k ∨ blk a k) → q k) : TrG q w (.mk nn s ks) [.int .i64 nn, .string s, .slice a n cap] := by
  simp only [TrG]
  exact ⟨a, n, cap, xs, rfl, hs, h.own.sl.mono (fun k hk h2 => hq k hk (.inr h2.2.1)) (by decide), h.kid.go (Chg.refl (fun _ => False) w) (fun k hk h => ⟨fun h => h, hq k hk (.inl h.1)⟩)⟩
end
end Go.Shr
namespace Go.Proofs.Ytdgcgkmejejccaa
open Go.RowKit Go.Shr
def zeroT : Tr := .mk 0 ⟨#[]⟩ []
/-- One thing turned. -/
def baseT (which n : Int) (s : ByteArray) (t : Tr) : Tr :=
  if which % 6 = 0 then .mk n t.s t.kids
  else if which % 6 = 1 then .mk t.n s t.kids
  else if which % 6 = 2 then .mk t.n t.s (t.kids ++ [[]])
  else if t.kids.length = 0 then .mk t.n t.s t.kids
  else if which % 6 = 3 then .mk t.n t.s (t.kids.set (n % t.kids.length).toNat (t.kids.getD (n % t.kids.length).toNat [] ++ [zeroT]))
  else if which % 6 = 4 then .mk t.n t.s (t.kids.set (n % t.kids.length).toNat [])
  else .mk t.n t.s (t.kids.set (n % t.kids.length).toNat (List.replicate 51 zeroT))
def kOf (at' : List Int) (i : Nat) (t : Tr) : Nat := (at'.getD i 0 % t.kids.length).toNat
def jOf (at' : List Int) (i : Nat) (t : Tr) : Nat := ((at'.getD i 0).tdiv 16 % (t.kids.getD (kOf at' i t) []).length).toNat
/-- One thing turned, down a way; fuel: how far it may go. -/
def turnT (at' : List Int) (which n : Int) (s : ByteArray) : Nat → Nat → Tr → Tr
  | 0, _, t => baseT which n s t
  | f + 1, i, t =>
    if i < at'.length ∧ 0 < t.kids.length ∧ 0 < (t.kids.getD (kOf at' i t) []).length then
      .mk t.n t.s (t.kids.set (kOf at' i t) ((t.kids.getD (kOf at' i t) []).set (jOf at' i t) (turnT at' which n s f (i + 1) ((t.kids.getD (kOf at' i t) []).getD (jOf at' i t) zeroT))))
    else baseT which n s t
mutual
/-- Not too many of anything. -/
def Thin : Tr → Prop
  | .mk _ _ ks => ks.length ≤ 1000 ∧ ThinK ks
def ThinK : List (List Tr) → Prop
  | [] => True
  | l :: r => l.length ≤ 1000 ∧ ThinL l ∧ ThinK r
def ThinL : List Tr → Prop
  | [] => True
  | t :: r => Thin t ∧ ThinL r
end
theorem ThinK.get : ∀ {ks : List (List Tr)} (_ : ThinK ks) (k : Nat) (hk : k < ks.length), ks[k].length ≤ 1000 ∧ ThinL ks[k]
  | l :: r, h, 0, _ => by simp only [ThinK] at h; exact ⟨h.1, h.2.1⟩
  | l :: r, h, k + 1, hk => by simp only [ThinK] at h; simpa using ThinK.get h.2.2 k (by simpa using hk)
theorem ThinL.get : ∀ {l : List Tr} (_ : ThinL l) (k : Nat) (hk : k < l.length), Thin l[k]
  | t :: r, h, 0, _ => by simp only [ThinL] at h; exact h.1
  | t :: r, h, k + 1, hk => by simp only [ThinL] at h; simpa using ThinL.get h.2 k (by simpa using hk)
theorem thin_mkX {f : Nat → Tr × Nat} (h : ∀ k, Thin (f k).1) : ∀ (m k : Nat), ThinL (mkX f m k).1 ∧ (mkX f m k).1.length = m
  | 0, k => by simp [mkX, ThinL]
  | m + 1, k => by
    have h1 := thin_mkX h m (f k).2
    simp only [mkX, ThinL, List.length_cons, h1.2]
    exact ⟨⟨h k, h1.1⟩, trivial⟩
mutual
theorem thin_mkT (ns : List Int) : ∀ (s : Sh) (k : Nat), s.size ≤ 1000 → Thin (mkT ns s k).1
  | .mk nm rp kd ks, k, hs => by
    simp only [Sh.size] at hs
    have h1 := thin_mkK ns ks (nextA ns k) (by omega)
    have h2 := kids_sizes ks
    have hl : ∀ n s, Thin (Tr.mk n s []) := fun n s => by simp [Thin, ThinK]
    rw [mkT]
    split
    · exact hl _ _
    · split
      · exact hl _ _
      · split
        · exact hl _ _
        · split
          · exact hl _ _
          · simp only [Thin]
            exact ⟨by rw [h1.2]; omega, h1.1⟩
theorem thin_mkK (ns : List Int) : ∀ (ks : List Sh) (k : Nat), shSizes ks ≤ 1000 → ThinK (mkK ns ks k).1 ∧ (mkK ns ks k).1.length = ks.length
  | [], k, _ => by simp [mkK, ThinK]
  | s :: r, k, h => by
    simp only [shSizes] at h
    have h1 := thin_mkX (f := mkT ns s) (fun k => thin_mkT ns s k (by omega)) (cntOf ns s.rep k).1 (cntOf ns s.rep k).2
    have h2 := thin_mkK ns r (mkX (mkT ns s) (cntOf ns s.rep k).1 (cntOf ns s.rep k).2).2 (by omega)
    have h3 := cntOf_le ns s.rep k
    simp only [mkK, ThinK, List.length_cons, h2.2, h1.2]
    exact ⟨⟨by omega, h1.1, h2.1⟩, trivial⟩
end
theorem thin_makeT (ns rs : List Int) : Thin (makeT (makeSh ns) rs) := thin_mkT rs _ 0 (make_sch ns).size
end Go.Proofs.Ytdgcgkmejejccaa
