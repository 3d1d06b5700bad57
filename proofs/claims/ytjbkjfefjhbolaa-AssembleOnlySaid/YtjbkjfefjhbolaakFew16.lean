import Derived.Test.YtjbkjfefjhbolaakLCols14
set_option linter.unusedSimpArgs false
set_option linter.unusedVariables false
namespace Go.Proofs.Ytjbkjfefjhbolaa
open Go.RowKit Go.Shr
def FewC (X : Cl) : Prop := X.r.length ≤ 50 ∧ X.d.length ≤ 50 ∧ X.v.length ≤ 50 ∧ ∀ v ∈ X.v, v.s.size ≤ 150
def FewQ16 (L : List Cl) (w : World) (e : Ending) (w' : World) : Prop := ∃ b, e = .returned (.bool b) ∧ (b = true → L.length ≤ 15 ∧ ∀ X ∈ L, FewC X) ∧ w' = w
set_option maxHeartbeats 1000000 in
set_option maxRecDepth 100000 in
theorem few16_v (ca : Option Addr) (m cc : Nat) (L : List Cl) (xs : List Value) (w : World) (hc : ColsR w ca m cc L xs) :
  Calls Try.prog 16 #[.slice ca m cc] w (FewQ16 L w) := by
 obtain rfl := hc.n
 have hLm := Nat.le_trans hc.sl.le hc.sl.max
 unfold maxLen at hLm
 have HC := Lib.hid hc
 clear hc
 go_enter Try.func16, Try.ntmps16
 go_wp2_with fail
 go_loopw [3] (fun iv wr => ∃ i : Nat, iv = .int .i64 (i : Int) ∧ i ≤ L.length ∧ Hid (∀ (k : Nat) (h : k < L.length), k < i → FewC L[k]) ∧ wr = w) (fun iv _ => L.length - (intOf iv).toNat)
 case atStart => exact ⟨0, rfl, Nat.zero_le _, Lib.hid (fun k _ h => by omega), rfl⟩
 case round =>
  obtain ⟨i, rfl, hi, HF, rfl⟩ := hrel
  by_cases hil : i < L.length
  ·obtain ⟨b, o, a0, c0, a1, c1, a2, c2, rfl, x0, x1, x2, hcl⟩ := HC.out.get i hil
   have h2m := Nat.le_trans hcl.v.le hcl.v.max
   unfold maxLen at h2m
   have HCL := Lib.hid hcl
   have hi1 : (i : Int) < (L.length : Int) := by omega
   clear hcl
   by_cases h0 : L[i].r.length ≤ 50
   rotate_left
   ·have h0' : (50 : Int) < (L[i].r.length : Int) := by omega
    generalize L[i].r.length = n0 at *
    go_wp2_with fail
    go_ret
    exact ⟨false, rfl, (fun h => by cases h), rfl⟩
   by_cases h1 : L[i].d.length ≤ 50
   rotate_left
   ·have h1' : (50 : Int) < (L[i].d.length : Int) := by omega
    have h0' : ¬ (50 : Int) < (L[i].r.length : Int) := by omega
    generalize L[i].r.length = n0 at *
    generalize L[i].d.length = n1 at *
    go_wp2_with fail
    go_ret
    exact ⟨false, rfl, (fun h => by cases h), rfl⟩
   by_cases h2 : L[i].v.length ≤ 50
   rotate_left
   ·have h2' : (50 : Int) < (L[i].v.length : Int) := by omega
    have h1' : ¬ (50 : Int) < (L[i].d.length : Int) := by omega
    have h0' : ¬ (50 : Int) < (L[i].r.length : Int) := by omega
    generalize L[i].r.length = n0 at *
    generalize L[i].d.length = n1 at *
    generalize L[i].v.length = n2 at *
    go_wp2_with fail
    go_ret
    exact ⟨false, rfl, (fun h => by cases h), rfl⟩
   have h2' : ¬ (50 : Int) < (L[i].v.length : Int) := by omega
   have h1' : ¬ (50 : Int) < (L[i].d.length : Int) := by omega
   have h0' : ¬ (50 : Int) < (L[i].r.length : Int) := by omega
   have HB := Lib.hid (And.intro h0 (And.intro h1 h2))
   obtain ⟨V, hV⟩ : ∃ V, V = L[i].v := ⟨_, rfl⟩
   have HV := Lib.hid hV
   have hnx : Hid ((∀ v ∈ V, v.s.size ≤ 150) → ∀ (k : Nat) (h : k < L.length), k < i + 1 → FewC L[k]) := Lib.hid (fun hv k hk hki => by
    by_cases e : k = i
    ·subst e; exact ⟨h0, h1, h2, by rw [← hV]; exact hv⟩
    ·exact HF.out k hk (by omega))
   have HSV : Hid (Sl (fun b => b < wr.heap.size) wr 2 a2 V.length c2 (vcs V)) := Lib.hid (by rw [hV]; exact HCL.out.v)
   rw [← hV] at x2 h2' h2m
   generalize L[i].r.length = n0 at *
   generalize L[i].d.length = n1 at *
   clear hV h0 h1 h2 HB HCL HV
   obtain ⟨wo, hwo⟩ : ∃ wo : World, wo = wr := ⟨_, rfl⟩
   subst hwo
   go_wp2_with fail
   go_loopw [4] (fun kv wq => ∃ k : Nat, kv = .int .i64 (k : Int) ∧ k ≤ V.length ∧ Hid (∀ (j : Nat) (h : j < V.length), j < k → V[j].s.size ≤ 150) ∧ wq = wo) (fun kv _ => V.length - (intOf kv).toNat)
   case atStart => exact ⟨0, rfl, Nat.zero_le _, Lib.hid (fun k _ h => by omega), rfl⟩
   case round =>
    obtain ⟨k, rfl, hk, HK, hwr⟩ := hrel
    subst hwr
    by_cases hkl : k < V.length
    ·obtain ⟨vb, vo, rfl, _, hvc⟩ := HSV.out.pos (by omega)
     have y1 := hvc _ _ (vcs_get V k hkl).2
     rw [← Nat.add_assoc] at y1
     have hk1 : (k : Int) < (V.length : Int) := by omega
     have HKX : Hid (V[k].s.size ≤ 150 → ∀ (j : Nat) (h : j < V.length), j < k + 1 → V[j].s.size ≤ 150) := Lib.hid (fun hv j hj hjk => by
      by_cases e : j = k
      ·subst e; exact hv
      ·exact HK.out j hj (by omega))
     generalize V[k].s = s at *
     clear hvc
     by_cases hs : s.size ≤ 150
     ·have hs' : ¬ (150 : Int) < (s.size : Int) := by omega
      go_wp2_with fail
      go_roundw
      case rel => exact ⟨k + 1, by go_num, by omega, Lib.hid (HKX.out hs), trivial⟩
      case measure => simp [intOf]; omega
     ·have hs' : (150 : Int) < (s.size : Int) := by omega
      go_wp2_with fail
      go_ret
      exact ⟨false, rfl, (fun h => by cases h), rfl⟩
    ·obtain rfl : k = V.length := by omega
     have HN := Lib.hid (hnx.out (fun v hv => by
      obtain ⟨j, hj, rfl⟩ := List.getElem_of_mem hv
      exact HK.out j hj hj))
     go_wp2_with fail
     go_roundw
     case rel => exact ⟨i + 1, by go_num, by omega, HN, trivial⟩
     case measure => simp [intOf]; omega
  ·obtain rfl : i = L.length := by omega
   go_wp2_with fail
   go_ret
   refine ⟨decide (L.length ≤ 15), by simp; omega, fun h => ⟨by simpa using h, fun X hX => ?_⟩, rfl⟩
   obtain ⟨j, hj, rfl⟩ := List.getElem_of_mem hX
   exact HF.out j hj hj
end Go.Proofs.Ytjbkjfefjhbolaa
namespace Go.Proofs.Ytjbkjfefjhbolaa
open Go.RowKit Go.Shr
structure QC (B U : Nat) (aR : Option Addr) (cR : Nat) (r : List Int) (aD : Option Addr) (cD : Nat) (d : List Int) (aV : Option Addr) (cV : Nat) (v : List Vc) (w : World) : Prop where
 row : Rw w U #[.slice aR r.length cR, .slice aD d.length cD, .slice aV v.length cV] 42
 oR : Own B w 3 1 aR r.length cR (ints r)
 oD : Own B w 3 1 aD d.length cD (ints d)
 oV : Own B w 44 2 aV v.length cV (vcs v)
 rd : ∀ g, blk aR g → ¬ blk aD g
 rv : ∀ g, blk aR g → ¬ blk aV g
 dv : ∀ g, blk aD g → ¬ blk aV g
 lt : ∀ g, blk aR g ∨ blk aD g ∨ blk aV g → g < w.heap.size
 bb : U < B
 le : B ≤ w.heap.size
structure QR (B : Nat) (aR : Option Addr) (nR cR : Nat) (xR : List Value) (aD : Option Addr) (nD cD : Nat) (xD : List Value) (aV : Option Addr) (nV cV : Nat) (xV : List Value) (w : World) : Prop where
 oR : Own B w 3 1 aR nR cR xR
 oD : Own B w 3 1 aD nD cD xD
 oV : Own B w 44 2 aV nV cV xV
 rd : ∀ g, blk aR g → ¬ blk aD g
 rv : ∀ g, blk aR g → ¬ blk aV g
 dv : ∀ g, blk aD g → ¬ blk aV g
 lt : ∀ g, blk aR g ∨ blk aD g ∨ blk aV g → g < w.heap.size
 le : B ≤ w.heap.size
section
variable {B U : Nat} {aR aD aV : Option Addr} {nR cR nD cD nV cV : Nat} {xR xD xV : List Value} {w w' : World}
theorem QR.below (h : QR B aR nR cR xR aD nD cD xD aV nV cV xV w) (hb : Below w.heap.size w w') : QR B aR nR cR xR aD nD cD xD aV nV cV xV w' :=
 ⟨h.oR.below hb, h.oD.below hb, h.oV.below hb, h.rd, h.rv, h.dv, fun g hg => Nat.lt_of_lt_of_le (h.lt g hg) hb.size, Nat.le_trans h.le hb.size⟩
theorem QR.nb (_ : QR B aR nR cR xR aD nD cD xD aV nV cV xV w) {o : Obj} {X : World} (hX : X = w.alloc o) : Below w.heap.size w X := by rw [hX]; exact ba (b0 w) _
theorem QR.nr (_ : QR B aR nR cR xR aD nD cD xD aV nV cV xV w) {c : Array Value} {t : TypeId} {X : World} (hX : X = w.alloc (.cells c t)) : Rw X w.heap.size c t := by rw [hX]; exact Rw.new w _ _
theorem QR.pushR (h : QR B aR nR cR xR aD nD cD xD aV nV cV xV w) {a' : Option Addr} {n' c' : Nat} {x' : List Value} (hn0 : 0 < n') (ho : Own B w' 3 1 a' n' c' x') (hc : Chg (fun g => blk aR g ∧ B ≤ g ∧ 0 < cR) w w') (hn : ∀ g, blk a' g → blk aR g ∨ w.heap.size ≤ g) : QR B a' n' c' x' aD nD cD xD aV nV cV xV w' := by
 obtain ⟨g0, rfl, hg1, hg2, _⟩ := ho.pos hn0
 refine ⟨ho, h.oD.chg hc (fun k hk k2 => h.rd k k2.1 hk), h.oV.chg hc (fun k hk k2 => h.rv k k2.1 hk), fun g hg hd => ?_, fun g hg hd => ?_, h.dv, fun g hg => ?_, Nat.le_trans h.le hc.size⟩
 ·rcases hn g hg with k | k
  ·exact h.rd g k hd
  ·exact absurd (h.lt g (.inr (.inl hd))) (by omega)
 ·rcases hn g hg with k | k
  ·exact h.rv g k hd
  ·exact absurd (h.lt g (.inr (.inr hd))) (by omega)
 ·rcases hg with k | k
  ·obtain ⟨o, s, e⟩ := k
   simp only [Option.some.injEq, Addr.mk.injEq] at e
   rw [← e.1]; exact hg2
  ·exact Nat.lt_of_lt_of_le (h.lt g (.inr k)) hc.size
theorem QR.swap (h : QR B aR nR cR xR aD nD cD xD aV nV cV xV w) : QR B aD nD cD xD aR nR cR xR aV nV cV xV w :=
 ⟨h.oD, h.oR, h.oV, fun g h1 h2 => h.rd g h2 h1, h.dv, h.rv, fun g hg => h.lt g (by rcases hg with k | k | k; exact .inr (.inl k); exact .inl k; exact .inr (.inr k)), h.le⟩
theorem QR.pushV (h : QR B aR nR cR xR aD nD cD xD aV nV cV xV w) {a' : Option Addr} {n' c' : Nat} {x' : List Value} (hn0 : 0 < n') (ho : Own B w' 44 2 a' n' c' x') (hc : Chg (fun g => blk aV g ∧ B ≤ g ∧ 0 < cV) w w') (hn : ∀ g, blk a' g → blk aV g ∨ w.heap.size ≤ g) : QR B aR nR cR xR aD nD cD xD a' n' c' x' w' := by
 obtain ⟨g0, rfl, hg1, hg2, _⟩ := ho.pos hn0
 refine ⟨h.oR.chg hc (fun k hk k2 => h.rv k hk k2.1), h.oD.chg hc (fun k hk k2 => h.dv k hk k2.1), ho, h.rd, fun g hd hg => ?_, fun g hd hg => ?_, fun g hg => ?_, Nat.le_trans h.le hc.size⟩
 ·rcases hn g hg with k | k
  ·exact h.rv g hd k
  ·exact absurd (h.lt g (.inl hd)) (by omega)
 ·rcases hn g hg with k | k
  ·exact h.dv g hd k
  ·exact absurd (h.lt g (.inr (.inl hd))) (by omega)
 ·rcases hg with k | k | k
  ·exact Nat.lt_of_lt_of_le (h.lt g (.inl k)) hc.size
  ·exact Nat.lt_of_lt_of_le (h.lt g (.inr (.inl k))) hc.size
  ·obtain ⟨o, s, e⟩ := k
   simp only [Option.some.injEq, Addr.mk.injEq] at e
   rw [← e.1]; exact hg2
theorem QR.under (h : QR B aR nR cR xR aD nD cD xD aV nV cV xV w) {p : Addr} (hp : p.block < B) (u : Value) : QR B aR nR cR xR aD nD cD xD aV nV cV xV (w.setCell p u) :=
 ⟨h.oR.setBelow hp _, h.oD.setBelow hp _, h.oV.setBelow hp _, h.rd, h.rv, h.dv, fun g hg => by simpa using h.lt g hg, by simpa using h.le⟩
end
section
variable {B U : Nat} {aR aD aV : Option Addr} {cR cD cV : Nat} {r d : List Int} {v : List Vc} {w w' : World}
theorem QC.qr (h : QC B U aR cR r aD cD d aV cV v w) : QR B aR r.length cR (ints r) aD d.length cD (ints d) aV v.length cV (vcs v) w := ⟨h.oR, h.oD, h.oV, h.rd, h.rv, h.dv, h.lt, h.le⟩
theorem QR.qc (h : QR B aR r.length cR (ints r) aD d.length cD (ints d) aV v.length cV (vcs v) w) (hr : Rw w U #[.slice aR r.length cR, .slice aD d.length cD, .slice aV v.length cV] 42) (hb : U < B) : QC B U aR cR r aD cD d aV cV v w := ⟨hr, h.oR, h.oD, h.oV, h.rd, h.rv, h.dv, h.lt, hb, h.le⟩
theorem QC.clAt (h : QC B U aR cR r aD cD d aV cV v w) : ClAt (fun b => B ≤ b) w ⟨r, d, v⟩ aR cR aD cD aV cV :=
 ⟨h.oR.sl.mono (fun k _ h => h.1) (by decide), h.oD.sl.mono (fun k _ h => h.1) (by decide), h.oV.sl.mono (fun k _ h => h.1) (by decide)⟩
end
structure OCol (B : Nat) (w : World) (a : Option Addr) (n cap : Nat) (L : List Cl) (xs : List Value) : Prop where
 own : Own B w 42 3 a n cap xs
 hd : HdG (fun b => b < w.heap.size ∧ ¬ blk a b) w L xs
 lt : ∀ b, blk a b → b < w.heap.size
 len : n = L.length
theorem OCol.nil (B : Nat) (w : World) : OCol B w none 0 0 [] [] := ⟨Own.nil _ _ _ _, rfl, (fun b ⟨_, _, h⟩ => by cases h), rfl⟩
theorem OCol.below {B : Nat} {w w' : World} {a : Option Addr} {n cap : Nat} {L : List Cl} {xs : List Value} (h : OCol B w a n cap L xs) (hb : Below w.heap.size w w') : OCol B w' a n cap L xs :=
 ⟨h.own.below hb, h.hd.go (Chg.ofBelow hb) (fun k hk ho => ⟨by omega, Nat.lt_of_lt_of_le hk hb.size, ho.2⟩), fun b k => Nat.lt_of_lt_of_le (h.lt b k) hb.size, h.len⟩
theorem OCol.push {B : Nat} {w w3 : World} {a a3 : Option Addr} {n cap cap3 : Nat} {L : List Cl} {xs : List Value} {c : Cl} {a0 a1 a2 : Option Addr} {c0 c1 c2 : Nat} (h : OCol B w a n cap L xs) (hc1 : ClAt (fun b => b < w.heap.size ∧ ¬ blk a b) w c a0 c0 a1 c1 a2 c2)
  (ho : Own B w3 42 3 a3 (n + 1) cap3 (xs ++ [.slice a0 c.r.length c0, .slice a1 c.d.length c1, .slice a2 c.v.length c2])) (hc : Chg (fun k => blk a k ∧ B ≤ k ∧ 0 < cap) w w3) (hn : ∀ k, blk a3 k → blk a k ∨ w.heap.size ≤ k) :
  OCol B w3 a3 (n + 1) cap3 (L ++ [c]) (xs ++ [.slice a0 c.r.length c0, .slice a1 c.d.length c1, .slice a2 c.v.length c2]) := by
 have hg : ∀ k, k < w.heap.size → (k < w.heap.size ∧ ¬ blk a k) → ¬ (blk a k ∧ B ≤ k ∧ 0 < cap) ∧ (k < w3.heap.size ∧ ¬ blk a3 k) := fun k hk h1 =>
  ⟨fun h2 => h1.2 h2.1, Nat.lt_of_lt_of_le hk hc.size, fun h2 => by rcases hn k h2 with h3 | h3; exact h1.2 h3; omega⟩
 exact ⟨ho, HdG.snoc (hc1.go hc hg) (h.hd.go hc hg), fun b hb => (ho.blt' (by omega) hb).2, by simp [h.len]⟩
theorem OCol.cols {B : Nat} {w : World} {a : Option Addr} {n cap : Nat} {L : List Cl} {xs : List Value} (h : OCol B w a n cap L xs) : ColsR w a n cap L xs :=
 ⟨h.own.sl.mono (fun k hk _ => hk) (by decide), h.hd.go (Chg.refl (fun _ => False) w) (fun k hk ho => ⟨fun h => h, hk⟩)⟩
theorem OCol.one {B : Nat} {w : World} {a : Option Addr} {n cap : Nat} {L : List Cl} {xs : List Value} (h : OCol B w a n cap L xs) : ∀ u ∈ xs, u.oneCell' = true := h.hd.one
end Go.Proofs.Ytjbkjfefjhbolaa
