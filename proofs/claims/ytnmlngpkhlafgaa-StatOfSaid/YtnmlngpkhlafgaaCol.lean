/-
  A column that is being made: what holds of it, and behind each append.
-/
import Derived.Test.YtnmlngpkhlafgaaStat6
import Derived.Test.YtnmlngpkhlafgaaColP
namespace Go.Proofs.Ytnmlngpkhlafgaa
open Go.RowKit Go.Shr
def ints (l : List Int) : List Value := l.map fun d => .int .i64 d
def bools (l : List Bool) : List Value := l.map fun d => .bool d
theorem blk_own {B : Nat} {w : World} {e : TypeId} {size : Nat} {a : Option Addr} {n cap : Nat} {xs : List Value} (h : Own B w e size a n cap xs) (hn : 0 < n) {k : Nat} (hk : blk a k) : B ≤ k ∧ k < w.heap.size := by
  obtain ⟨g, rfl, h1, h2, _⟩ := h.pos hn
  obtain ⟨o, s, e'⟩ := hk
  cases e'
  exact ⟨h1, h2⟩
structure ColI (B : Nat) (w : World) (j : Nat) (aR : Option Addr) (cR : Nat) (aD : Option Addr) (cD : Nat) (aV : Option Addr) (nV cV : Nat) (xR : List Value) (xD : List Int) (xV : List Vl) : Prop where
  r0 : Rw w B #[.int .i64 0, .int .i64 0, .int .i64 0, .int .i64 0] 28
  r1 : Rw w (B + 1) #[.slice none 0 0, .slice none 0 0, .slice none 0 0] 31
  r2 : Rw w (B + 1 + 1) #[.slice aR j cR, .slice aD j cD, .slice aV nV cV] 31
  oR : Own (B + 1 + 1 + 1) w 3 1 aR j cR xR
  oD : Own (B + 1 + 1 + 1) w 3 1 aD j cD (ints xD)
  oV : Own (B + 1 + 1 + 1) w 35 2 aV nV cV (vls xV)
  bR : ∀ k, blk aR k → k < w.heap.size
  bD : ∀ k, blk aD k → k < w.heap.size
  bV : ∀ k, blk aV k → k < w.heap.size
  dRD : ∀ k, blk aR k → ¬ blk aD k
  dRV : ∀ k, blk aR k → ¬ blk aV k
  dDV : ∀ k, blk aD k → ¬ blk aV k
section
variable {B : Nat} {w : World} {j : Nat} {aR aD aV : Option Addr} {cR cD nV cV : Nat} {xR : List Value} {xD : List Int} {xV : List Vl}
theorem ColI.pushV (h : ColI B w j aR cR aD cD aV nV cV xR xD xV) {u w3 : World} (h1 : Below w.heap.size w u) {a3 : Option Addr} {c3 : Nat} {x : Vl} (hc : Chg (fun k => blk aV k ∧ B + 1 + 1 + 1 ≤ k ∧ 0 < cV) u w3)
    (ho : Own (B + 1 + 1 + 1) w3 35 2 a3 (nV + 1) c3 (vls xV ++ [.int .i64 x.n, .string x.s])) (hn : ∀ k, blk a3 k → blk aV k ∨ u.heap.size ≤ k) :
    ColI B (w3.setCell ⟨B + 1 + 1, 2, none⟩ (.slice a3 (nV + 1) c3)) j aR cR aD cD a3 (nV + 1) c3 xR xD (xV ++ [x]) := by
  have hs1 := h1.size
  have hs2 := hc.size
  refine ⟨?_, ?_, ?_, ?_, ?_, ?_, ?_, ?_, ?_, h.dRD, ?_, ?_⟩
  · exact ((h.r0.below h1).chg hc (by rintro ⟨_, h, _⟩; omega)).other (by simp only [ne_eq]; omega) _
  · exact ((h.r1.below h1).chg hc (by rintro ⟨_, h, _⟩; omega)).other (by simp only [ne_eq]; omega) _
  · exact ((h.r2.below h1).chg hc (by rintro ⟨_, h, _⟩; omega)).set 2 _
  · exact ((h.oR.below h1).chg hc (fun k hk h' => h.dRV k hk h'.1)).setBelow (by show B + 1 + 1 < _; omega) _
  · exact ((h.oD.below h1).chg hc (fun k hk h' => h.dDV k hk h'.1)).setBelow (by show B + 1 + 1 < _; omega) _
  · rw [vls_snoc]; exact ho.setBelow (by show B + 1 + 1 < _; omega) _
  · intro k hk; have := h.bR k hk; simp; omega
  · intro k hk; have := h.bD k hk; simp; omega
  · intro k hk; have := (blk_own ho (by omega) hk).2; simp; omega
  · intro k hk h3; have := h.bR k hk
    rcases hn k h3 with h3 | h3
    · exact h.dRV k hk h3
    · omega
  · intro k hk h3; have := h.bD k hk
    rcases hn k h3 with h3 | h3
    · exact h.dDV k hk h3
    · omega
theorem ColI.pushRD (h : ColI B w j aR cR aD cD aV nV cV xR xD xV) {u1 w3 u2 w8 : World} (h1 : Below w.heap.size w u1) {a3 a8 : Option Addr} {c3 c8 : Nat} {yR : List Value} {d : Int}
    (hc3 : Chg (fun k => blk aR k ∧ B + 1 + 1 + 1 ≤ k ∧ 0 < cR) u1 w3) (ho3 : Own (B + 1 + 1 + 1) w3 3 1 a3 (j + 1) c3 yR) (hn3 : ∀ k, blk a3 k → blk aR k ∨ u1.heap.size ≤ k)
    (h2 : Below w3.heap.size w3 u2) (hc8 : Chg (fun k => blk aD k ∧ B + 1 + 1 + 1 ≤ k ∧ 0 < cD) u2 w8) (ho8 : Own (B + 1 + 1 + 1) w8 3 1 a8 (j + 1) c8 (ints xD ++ [.int .i64 d])) (hn8 : ∀ k, blk a8 k → blk aD k ∨ u2.heap.size ≤ k) :
    ColI B ((w8.setCell ⟨B + 1 + 1, 0, none⟩ (.slice a3 (j + 1) c3)).setCell ⟨B + 1 + 1, 1, none⟩ (.slice a8 (j + 1) c8)) (j + 1) a3 c3 a8 c8 aV nV cV yR (xD ++ [d]) xV := by
  have hs1 := h1.size
  have hs2 := hc3.size
  have hs3 := h2.size
  have hs4 := hc8.size
  have q3 : ∀ k, blk a3 k → k < w3.heap.size := fun k hk => (blk_own ho3 (by omega) hk).2
  refine ⟨?_, ?_, ?_, ?_, ?_, ?_, ?_, ?_, ?_, ?_, ?_, ?_⟩
  · exact ((((h.r0.below h1).chg hc3 (by rintro ⟨_, h, _⟩; omega)).below h2).chg hc8 (by rintro ⟨_, h, _⟩; omega)).other (by simp only [ne_eq]; omega) _ |>.other (by simp only [ne_eq]; omega) _
  · exact ((((h.r1.below h1).chg hc3 (by rintro ⟨_, h, _⟩; omega)).below h2).chg hc8 (by rintro ⟨_, h, _⟩; omega)).other (by simp only [ne_eq]; omega) _ |>.other (by simp only [ne_eq]; omega) _
  · exact ((((h.r2.below h1).chg hc3 (by rintro ⟨_, h, _⟩; omega)).below h2).chg hc8 (by rintro ⟨_, h, _⟩; omega)).set 0 _ |>.set 1 _
  · refine (((ho3.below h2).chg hc8 (fun k hk h' => ?_)).setBelow (by show B + 1 + 1 < _; omega) _).setBelow (by show B + 1 + 1 < _; omega) _
    have := h.bD k h'.1
    rcases hn3 k hk with h3 | h3
    · exact h.dRD k h3 h'.1
    · omega
  · rw [show ints (xD ++ [d]) = ints xD ++ [.int .i64 d] by simp [ints]]
    exact (ho8.setBelow (by show B + 1 + 1 < _; omega) _).setBelow (by show B + 1 + 1 < _; omega) _
  · exact (((((h.oV.below h1).chg hc3 (fun k hk h' => h.dRV k h'.1 hk)).below h2).chg hc8 (fun k hk h' => h.dDV k h'.1 hk)).setBelow (by show B + 1 + 1 < _; omega) _).setBelow (by show B + 1 + 1 < _; omega) _
  · intro k hk; have := q3 k hk; simp; omega
  · intro k hk; have := (blk_own ho8 (by omega) hk).2; simp; omega
  · intro k hk; have := h.bV k hk; simp; omega
  · intro k hk h8; have := q3 k hk
    rcases hn8 k h8 with h8 | h8
    · have := h.bD k h8
      rcases hn3 k hk with h3 | h3
      · exact h.dRD k h3 h8
      · omega
    · omega
  · intro k hk hv; have := h.bV k hv
    rcases hn3 k hk with h3 | h3
    · exact h.dRV k h3 hv
    · omega
  · intro k hk hv; have := h.bV k hv
    rcases hn8 k hk with h8 | h8
    · exact h.dDV k h8 hv
    · omega
end
end Go.Proofs.Ytnmlngpkhlafgaa
