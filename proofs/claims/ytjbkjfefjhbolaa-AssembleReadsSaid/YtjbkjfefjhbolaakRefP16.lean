import Derived.Test.YtjbkjfefjhbolaakRNon14
import Derived.Test.YtjbkjfefjhbolaakValue16
set_option linter.all false
open List renaming getD_eq_getElem?_getD → zLP
open And renaming intro → zLQ
open Nat renaming add_assoc → zLR, le_trans → zLS, le_refl → zLT, add_zero → zLU
set_option maxHeartbeats 40000000
set_option maxRecDepth 100000
namespace Go.Proofs.Ytjbkjfefjhbolaa
open Go.RowKit Go.Shr
structure As where
 A : Nat → Nat
 V : Nat → Nat
 bad : Bool
def zBP (f : Nat → Nat) (k : Nat) : Nat → Nat := fun j => if j = k then f k + 1 else f j
def lenX (q : BQ) (k : Nat) : Nat := min (q.X k).r.length (q.X k).d.length
def yV (q : BQ) (st : As) (k : Nat) : Int × Int := if st.A k < lenX q k then ((q.X k).r.getD (st.A k) 0, (q.X k).d.getD (st.A k) 0) else (-1, -1)
def vX (q : BQ) (st : As) (k : Nat) : Vc := (q.X k).v.getD (st.V k) ⟨0, ByteArray.empty⟩
def zA9 (q : BQ) (st : As) (k : Nat) : Tr × As :=
 if (yV q st k).1 < 0 ∨ (q.X k).v.length ≤ st.V k then (.mk 0 ByteArray.empty [], ⟨st.A, st.V, true⟩) else (.mk (vX q st k).n (vX q st k).s [], ⟨zBP st.A k, zBP st.V k, st.bad⟩)
def jD (q : BQ) : Nat → Nat → As → As
 | 0, _, st => st
 | n + 1, a, st => jD q n (a + 1) ⟨zBP st.A a, st.V, st.bad || decide ((yV q st a).1 < 0)⟩
def zAg (f : As → Tr × As) (go : As → Bool) : Nat → List Tr × As → List Tr × As
 | 0, p => p
 | n + 1, p => if go p.2 = true then zAg f go n (p.1 ++ [(f p.2).1], (f p.2).2) else p
def goX (q : BQ) (o : Nat) (rep : Int) (st : As) : Bool := decide (rep = 2) && decide ((yV q st (kb q.l o)).1 = (lvR q.l o : Int)) && !st.bad
def zBZ (q : BQ) (o n : Nat) (rep : Int) (f : As → Tr × As) (st : As) : List Tr × As :=
 if (yV q st (kb q.l o)).2 < (lvD q.l o : Int) then ([], jD q n (kb q.l o) st) else zAg f (goX q o rep) (lenX q (kb q.l o) + 1) ([(f st).1], (f st).2)
def wN (q : BQ) (o : Nat) (s : Sh) : Nat := kb q.l (o + s.size) - kb q.l o
mutual
def qX (q : BQ) : Sh → Nat → As → Tr × As
 | .mk _ _ kd ks, i, st => if kd ≠ 0 then zA9 q st (kb q.l i) else (.mk 0 ByteArray.empty (zAe q ks (i + 1) st).1, (zAe q ks (i + 1) st).2)
def zAe (q : BQ) : List Sh → Nat → As → List (List Tr) × As
 | [], _, st => ([], st)
 | s :: r, o, st =>
  ((zBZ q o (wN q o s) s.rep (fun u => qX q s o u) st).1 :: (zAe q r (o + s.size) (zBZ q o (wN q o s) s.rep (fun u => qX q s o u) st).2).1,
   (zAe q r (o + s.size) (zBZ q o (wN q o s) s.rep (fun u => qX q s o u) st).2).2)
end
def wO (q : BQ) (sh : Sh) : Nat → List Tr × As → List Tr × As
 | 0, p => p
 | n + 1, p => if p.2.bad = true then p else wO q sh n (p.1 ++ [(qX q sh 0 p.2).1], (qX q sh 0 p.2).2)
theorem zEC (q : BQ) : ∀ (done : List Sh) (s : Sh) (o : Nat) (st : As), zAe q (done ++ [s]) o st =
  ((zAe q done o st).1 ++ [(zBZ q (o + zC done) (wN q (o + zC done) s) s.rep (fun u => qX q s (o + zC done) u) (zAe q done o st).2).1],
   (zBZ q (o + zC done) (wN q (o + zC done) s) s.rep (fun u => qX q s (o + zC done) u) (zAe q done o st).2).2)
 | [], s, o, st => by simp [zAe, zC]
 | e :: done, s, o, st => by
  have ih := zEC q done s (o + e.size) (zBZ q o (wN q o e) e.rep (fun u => qX q e o u) st).2
  simp only [List.cons_append, zAe, zC]
  rw [ih, zLR]
theorem zEu (q : BQ) : ∀ (n m a : Nat) (st : As), jD q (n + m) a st = jD q m (a + n) (jD q n a st)
 | 0, m, a, st => by simp [jD]
 | n + 1, m, a, st => by
  rw [show n + 1 + m = (n + m) + 1 by omega]
  simp only [jD]
  rw [zEu q n m (a + 1), show a + 1 + n = a + (n + 1) by omega]
theorem wL (f : Nat → Nat) (k : Nat) : zBP f k k = f k + 1 := by simp [zBP]
theorem zCq (f : Nat → Nat) {k j : Nat} (h : j ≠ k) : zBP f k j = f j := by simp [zBP, h]
structure Bd (q : BQ) (a b : Nat) (st st' : As) : Prop where
 out : ∀ k, ¬ (a ≤ k ∧ k < b) → st'.A k = st.A k ∧ st'.V k = st.V k
 mono : ∀ k, st.A k ≤ st'.A k
 top : ∀ k, a ≤ k → k < b → st'.A k ≤ lenX q k + 1
 prog : st'.bad = false → ∀ k, a ≤ k → k < b → st.A k < st'.A k ∧ st'.A k ≤ lenX q k
 vtop : ∀ k, st.V k ≤ (q.X k).v.length → st'.V k ≤ (q.X k).v.length
 bad : st.bad = true → st'.bad = true
def Low (q : BQ) (a b : Nat) (st : As) : Prop := ∀ k, a ≤ k → k < b → st.A k ≤ lenX q k
theorem Bd.refl (q : BQ) (a : Nat) (st : As) : Bd q a a st st := ⟨fun _ _ => ⟨rfl, rfl⟩, fun _ => zLT _, fun k h1 h2 => by omega, fun _ k h1 h2 => by omega, fun _ h => h, fun h => h⟩
theorem Bd.good {q : BQ} {a b : Nat} {st st' : As} (h : Bd q a b st st') (hb : st'.bad = false) : st.bad = false := by
 cases hs : st.bad with
 | false => rfl
 | true => rw [h.bad hs] at hb; cases hb
theorem Bd.seq {q : BQ} {a b c : Nat} {s0 s1 s2 : As} (h : Bd q a b s0 s1) (k : Bd q b c s1 s2) (hab : a ≤ b) (hbc : b ≤ c) : Bd q a c s0 s2 := by
 refine ⟨fun j hj => ?_, fun j => zLS (h.mono j) (k.mono j), fun j h1 h2 => ?_, fun hb j h1 h2 => ?_, fun j hv => k.vtop j (h.vtop j hv), fun hb => k.bad (h.bad hb)⟩
 ·have e1 := h.out j (by omega); have e2 := k.out j (by omega)
  rw [e2.1, e2.2, e1.1, e1.2]; exact ⟨rfl, rfl⟩
 ·by_cases hj : j < b
  ·rw [(k.out j (by omega)).1]; exact h.top j h1 hj
  ·exact k.top j (by omega) h2
 ·by_cases hj : j < b
  ·rw [(k.out j (by omega)).1]; exact h.prog (k.good hb) j h1 hj
  ·have := k.prog hb j (by omega) h2
   rw [(h.out j (by omega)).1] at this
   exact this
theorem Bd.again {q : BQ} {a b : Nat} {s0 s1 s2 : As} (h : Bd q a b s0 s1) (k : Bd q a b s1 s2) : Bd q a b s0 s2 := by
 refine ⟨fun j hj => ?_, fun j => zLS (h.mono j) (k.mono j), k.top, fun hb j h1 h2 => ?_, fun j hv => k.vtop j (h.vtop j hv), fun hb => k.bad (h.bad hb)⟩
 ·have e1 := h.out j hj; have e2 := k.out j hj
  rw [e2.1, e2.2, e1.1, e1.2]; exact ⟨rfl, rfl⟩
 ·have := k.prog hb j h1 h2; have := h.mono j; omega
theorem Bd.low {q : BQ} {a b : Nat} {s0 s1 : As} (h : Bd q a b s0 s1) (hb : s1.bad = false) : Low q a b s1 := fun k h1 h2 => (h.prog hb k h1 h2).2
theorem Bd.lowOut {q : BQ} {a b c d : Nat} {s0 s1 : As} (h : Bd q a b s0 s1) (hl : Low q c d s0) (hd : b ≤ c ∨ d ≤ a) : Low q c d s1 := fun k h1 h2 => by
 rw [(h.out k (by omega)).1]; exact hl k h1 h2
theorem zCH {q : BQ} {st : As} {k : Nat} (h : ¬ (yV q st k).1 < 0) : st.A k < lenX q k := by
 unfold yV at h
 split at h
 ·assumption
 ·exact absurd (show ((-1 : Int), (-1 : Int)).1 < 0 by decide) h
theorem zI1 {q : BQ} {st : As} {k : Nat} (hl : Low q k (k + 1) st) : Bd q k (k + 1) st (zA9 q st k).2 := by
 have h0 := hl k (zLT _) (by omega)
 unfold zA9
 split
 ·refine ⟨fun _ _ => ⟨rfl, rfl⟩, fun _ => zLT _, fun j h1 h2 => ?_, fun hb => (by cases hb), fun _ h => h, fun _ => rfl⟩
  obtain rfl : j = k := by omega
  dsimp only; omega
 ·rename_i hc
  have hc1 := zCH (fun h => hc (.inl h))
  refine ⟨fun j hj => ?_, fun j => ?_, fun j h1 h2 => ?_, fun _ j h1 h2 => ?_, fun j hv => ?_, fun h => h⟩
  ·dsimp only; rw [zCq _ (by omega), zCq _ (by omega)]; exact ⟨rfl, rfl⟩
  ·dsimp only [zBP]; split
   ·rename_i e; rw [e]; omega
   ·omega
  ·obtain rfl : j = k := by omega
   dsimp only; rw [wL]; omega
  ·obtain rfl : j = k := by omega
   dsimp only; rw [wL]; omega
  ·dsimp only [zBP]; split
   ·rename_i e; subst e
    have := Nat.lt_of_not_le (fun h => hc (.inr h)); omega
   ·exact hv
theorem zCd (q : BQ) : ∀ (n a : Nat) (st : As), Low q a (a + n) st → Bd q a (a + n) st (jD q n a st)
 | 0, a, st, _ => by simpa [jD] using Bd.refl q a st
 | n + 1, a, st, hl => by
  have h0 := hl a (zLT _) (by omega)
  simp only [jD]
  have h1 : Bd q a (a + 1) st ⟨zBP st.A a, st.V, st.bad || decide ((yV q st a).1 < 0)⟩ := by
   refine ⟨fun j hj => ?_, fun j => ?_, fun j h1 h2 => ?_, fun hb j h1 h2 => ?_, fun j hv => hv, fun h => by simp [h]⟩
   ·dsimp only; rw [zCq _ (by omega)]; exact ⟨rfl, rfl⟩
   ·dsimp only [zBP]; split
    ·rename_i e; rw [e]; omega
    ·omega
   ·obtain rfl : j = a := by omega
    dsimp only; rw [wL]; omega
   ·obtain rfl : j = a := by omega
    dsimp only; rw [wL]
    simp only [Bool.or_eq_false_iff, decide_eq_false_iff_not] at hb
    have := zCH hb.2; omega
  have h2 := zCd q n (a + 1) _ (h1.lowOut (c := a + 1) (d := a + 1 + n) (fun k g1 g2 => hl k (by omega) (by omega)) (.inl (zLT _)))
  have := h1.seq h2 (by omega) (by omega)
  rwa [show a + 1 + n = a + (n + 1) by omega] at this
theorem zF8 {q : BQ} {a b : Nat} {f : As → Tr × As} {go : As → Bool} (hf : ∀ st, Low q a b st → Bd q a b st (f st).2) (hgo : ∀ st, go st = true → st.bad = false) : ∀ (n : Nat) (p : List Tr × As) (s0 : As), Bd q a b s0 p.2 → Bd q a b s0 (zAg f go n p).2
 | 0, p, s0, h => by simpa [zAg] using h
 | n + 1, p, s0, h => by
  simp only [zAg]
  split
  ·rename_i hg
   exact zF8 hf hgo n _ s0 (h.again (hf p.2 (h.low (hgo _ hg))))
  ·exact h
theorem zGf {q : BQ} {o : Nat} {rep : Int} {st : As} (h : goX q o rep st = true) : rep = 2 ∧ (yV q st (kb q.l o)).1 = (lvR q.l o : Int) ∧ st.bad = false := by
 unfold goX at h
 simpa [and_assoc] using h
theorem zHp {q : BQ} {o n : Nat} {rep : Int} {f : As → Tr × As} {st : As} (hf : ∀ st, Low q (kb q.l o) (kb q.l o + n) st → Bd q (kb q.l o) (kb q.l o + n) st (f st).2) (hl : Low q (kb q.l o) (kb q.l o + n) st) : Bd q (kb q.l o) (kb q.l o + n) st (zBZ q o n rep f st).2 := by
 unfold zBZ
 split
 ·exact zCd q n _ st hl
 ·exact zF8 hf (fun st h => (zGf h).2.2) _ _ _ (hf st hl)
mutual
theorem zC2 {q : BQ} : ∀ (s : Sh) (i : Nat) (st : As), Ix q.l (fun v => zK (par q.l) v) i s → zR s → Low q (kb q.l i) (kb q.l (i + s.size)) st → Bd q (kb q.l i) (kb q.l (i + s.size)) st (qX q s i st).2
 | .mk nm rp kd ks, i, st, hx, hg, hl => by
  simp only [Ix] at hx
  simp only [zR] at hg
  have hkd : (flN q.l i).kind = kd := by unfold flN; rw [zLP, hx.1]; rfl
  simp only [qX]
  by_cases hk : kd = 0
  ·subst hk
   rw [if_neg (by decide)]
   simp only [Sh.size] at hl ⊢
   have e : kb q.l (i + 1) = kb q.l i := zBl hkd
   rw [show i + (1 + zC ks) = i + 1 + zC ks by omega] at hl ⊢
   rw [← e] at hl ⊢
   exact zDx ks (i + 1) st hx.2.2 hg.2.2.2.2.2.2 hl
  ·rw [if_pos hk]
   have hks := hg.2.2.2.2.1 hk
   subst hks
   simp only [Sh.size, zC, zLU] at hl ⊢
   rw [jH, if_neg (by rw [hkd]; exact hk)] at hl ⊢
   exact zI1 hl
theorem zDx {q : BQ} : ∀ (ks : List Sh) (o : Nat) (st : As), IxL q.l (fun v => zK (par q.l) v) o ks → yG ks → Low q (kb q.l o) (kb q.l (o + zC ks)) st → Bd q (kb q.l o) (kb q.l (o + zC ks)) st (zAe q ks o st).2
 | [], o, st, _, _, _ => by simpa [zAe, zC] using Bd.refl q _ st
 | s :: r, o, st, hx, hg, hl => by
  simp only [IxL] at hx
  simp only [yG] at hg
  simp only [zC] at hl ⊢
  simp only [zAe]
  have m1 := yS q.l (show o ≤ o + s.size by omega)
  have m2 := yS q.l (show o + s.size ≤ o + s.size + zC r by omega)
  rw [← zLR] at hl ⊢
  have e : kb q.l o + wN q o s = kb q.l (o + s.size) := by unfold wN; omega
  have h1 := zHp (q := q) (o := o) (n := wN q o s) (rep := s.rep) (f := fun u => qX q s o u) (st := st)
   (fun u hu => by rw [e] at hu ⊢; exact zC2 s o u hx.1 hg.1 hu) (fun k g1 g2 => hl k g1 (by omega))
  rw [e] at h1
  have h2 := zDx r (o + s.size) _ hx.2 hg.2 (h1.lowOut (fun k g1 g2 => hl k (by omega) g2) (.inl (zLT _)))
  exact h1.seq h2 m1 m2
end
structure RQ where
  b : BQ
  pa : Option Addr
  pc : Nat
  ra : Option Addr
  rc : Nat
  da : Option Addr
  dc : Nat
  fa : Option Addr
  fc : Nat
def RQ.ch (q : RQ) (k : Nat) : Prop := k = q.b.bx ∨ k = q.b.bk ∨ k = q.b.bv
def RQ.ok (q : RQ) (k : Nat) : Prop := k < q.b.B0 ∧ ¬ q.ch k
def zBj (m : Nat) (A : Nat → Nat) : Array Value := ((List.range m).map fun k => Value.int .i64 (A k : Int)).toArray
def zD4 (l : List Fl) : List Int := (List.range l.length).map fun i => (lvD l i : Int)
theorem zBx (l : List Fl) : (zD4 l).length = l.length := by simp [zD4]
def RQ.box (q : RQ) (bad : Bool) : Array Value := #[.slice q.b.sa q.b.n q.b.sc, .slice q.pa q.b.n q.pc, .slice q.ra q.b.n q.rc, .slice q.da q.b.n q.dc, .slice q.fa q.b.n q.fc, .slice q.b.ca q.b.m q.b.cc, .slice (some ⟨q.b.bk, 0, none⟩) q.b.m q.b.m, .slice (some ⟨q.b.bv, 0, none⟩) q.b.m q.b.m, .bool bad]
structure RS (q : RQ) (w : World) (st : As) : Prop where
  row : Rw w q.b.bx (q.box st.bad) 82
  rA : Rw w q.b.bk (zBj q.b.m st.A) 3
  rV : Rw w q.b.bv (zBj q.b.m st.V) 3
  ne : q.b.bx ≠ q.b.bk ∧ q.b.bx ≠ q.b.bv ∧ q.b.bk ≠ q.b.bv
  s : Sl q.ok w 4 q.b.sa q.b.n q.b.sc (fls q.b.l)
  par : Sl q.ok w 1 q.pa q.b.n q.pc (zQ (par q.b.l))
  rr : Sl q.ok w 1 q.ra q.b.n q.rc (zQ (zBL q.b.l))
  dd : Sl q.ok w 1 q.da q.b.n q.dc (zQ (zD4 q.b.l))
  ff : Sl q.ok w 1 q.fa q.b.n q.fc (zQ (qO q.b.l))
  cols : Sl q.ok w 3 q.b.ca q.b.m q.b.cc q.b.xs
  hd : HdG q.ok w q.b.L q.b.xs
  B0 : q.b.B0 ≤ w.heap.size
structure RX (q : RQ) : Prop where
  small : q.b.l.length ≤ 1000
  m : q.b.L.length = q.b.m
  len : ∀ k, (q.b.X k).d.length ≤ 1000000
  str : ∀ k, ∀ v ∈ (q.b.X k).v, v.s.size ≤ maxLen
theorem RX.lenX {q : RQ} (h : RX q) (k : Nat) : lenX q.b k ≤ 1000000 := by have := h.len k; unfold Go.Proofs.Ytjbkjfefjhbolaa.lenX; omega
section
variable {q : RQ} {w w' : World} {st st' : As}
theorem RS.go {S : Nat → Prop} (h : RS q w st) (hc : Chg S w w') (hn : ∀ k, k < w.heap.size → ¬ S k) : RS q w' st :=
  ⟨h.row.chg hc (hn _ h.row.lt), h.rA.chg hc (hn _ h.rA.lt), h.rV.chg hc (hn _ h.rV.lt), h.ne, h.s.go hc (fun k hk ho => ⟨hn k hk, ho⟩) (by decide), h.par.go hc (fun k hk ho => ⟨hn k hk, ho⟩) (by decide), h.rr.go hc (fun k hk ho => ⟨hn k hk, ho⟩) (by decide), h.dd.go hc (fun k hk ho => ⟨hn k hk, ho⟩) (by decide), h.ff.go hc (fun k hk ho => ⟨hn k hk, ho⟩) (by decide), h.cols.go hc (fun k hk ho => ⟨hn k hk, ho⟩) (by decide), h.hd.go hc (fun k hk ho => ⟨hn k hk, ho⟩), zLS h.B0 hc.size⟩
theorem RS.below (h : RS q w st) (hb : Below w.heap.size w w') : RS q w' st := h.go (Chg.ofBelow hb) (fun k hk h2 => by omega)
theorem RS.other (h : RS q w st) {b : Nat} (hb : ¬ q.ch b) (hB : q.b.B0 ≤ b) {S : Nat → Prop} (hc : Chg S w w') (hS : ∀ k, S k → k = b) : RS q w' st := by
  have hn : ∀ k, k < w.heap.size → q.ok k → ¬ S k ∧ q.ok k := fun k _ ho => ⟨fun e => by have := hS _ e; have := ho.1; omega, ho⟩
  exact ⟨h.row.chg hc (fun e => hb (.inl (hS _ e).symm)), h.rA.chg hc (fun e => hb (.inr (.inl (hS _ e).symm))), h.rV.chg hc (fun e => hb (.inr (.inr (hS _ e).symm))), h.ne, h.s.go hc hn (by decide), h.par.go hc hn (by decide), h.rr.go hc hn (by decide), h.dd.go hc hn (by decide), h.ff.go hc hn (by decide), h.cols.go hc hn (by decide), h.hd.go hc hn, zLS h.B0 hc.size⟩
theorem RS.new (h : RS q w st) {b : Nat} (hb : w.heap.size ≤ b) : ¬ q.ch b := fun h2 => by
  have := h.row.lt; have := h.rA.lt; have := h.rV.lt
  rcases h2 with h2 | h2 | h2 <;> omega
theorem RS.setBad (h : RS q w st) (b : Bool) : RS q (w.setCell ⟨q.b.bx, 8, none⟩ (.bool b)) ⟨st.A, st.V, b⟩ := by
  have hc : Chg (fun k => k = q.b.bx) w (w.setCell ⟨q.b.bx, 8, none⟩ (.bool b)) := (Chg.refl (fun k => k = q.b.bx) w).setCell (p := ⟨q.b.bx, 8, none⟩) (.inr rfl) _
  have hn : ∀ k, k < w.heap.size → q.ok k → ¬ k = q.b.bx ∧ q.ok k := fun k _ ho => ⟨fun e => ho.2 (.inl e), ho⟩
  exact ⟨h.row.set 8 (.bool b), h.rA.chg hc (fun e => h.ne.1 e.symm), h.rV.chg hc (fun e => h.ne.2.1 e.symm), h.ne, h.s.go hc hn (by decide), h.par.go hc hn (by decide), h.rr.go hc hn (by decide), h.dd.go hc hn (by decide), h.ff.go hc hn (by decide), h.cols.go hc hn (by decide), h.hd.go hc hn, zLS h.B0 hc.size⟩
theorem zEy {m : Nat} {A : Nat → Nat} {k : Nat} : (zBj m A).setIfInBounds k (.int .i64 ((A k + 1 : Nat) : Int)) = zBj m (zBP A k) := by
  unfold zBj
  rw [List.setIfInBounds_toArray]
  congr 1
  apply List.ext_getElem
  · simp
  · intro j h1 h2
    simp only [List.getElem_set, List.getElem_map, List.getElem_range, zBP]
    by_cases hj : k = j
    · subst hj; simp
    · rw [if_neg hj, if_neg (fun e => hj e.symm)]
theorem RS.bumpA (h : RS q w st) (k : Nat) : RS q (w.setCell ⟨q.b.bk, k, none⟩ (.int .i64 ((st.A k + 1 : Nat) : Int))) ⟨zBP st.A k, st.V, st.bad⟩ := by
  have hc : Chg (fun b => b = q.b.bk) w (w.setCell ⟨q.b.bk, k, none⟩ (.int .i64 ((st.A k + 1 : Nat) : Int))) := (Chg.refl (fun b => b = q.b.bk) w).setCell (p := ⟨q.b.bk, k, none⟩) (.inr rfl) _
  have hn : ∀ b, b < w.heap.size → q.ok b → ¬ b = q.b.bk ∧ q.ok b := fun b _ ho => ⟨fun e => ho.2 (.inr (.inl e)), ho⟩
  exact ⟨h.row.chg hc h.ne.1, by rw [← zEy]; exact h.rA.set k _, h.rV.chg hc (fun e => h.ne.2.2 e.symm), h.ne, h.s.go hc hn (by decide), h.par.go hc hn (by decide), h.rr.go hc hn (by decide), h.dd.go hc hn (by decide), h.ff.go hc hn (by decide), h.cols.go hc hn (by decide), h.hd.go hc hn, zLS h.B0 hc.size⟩
theorem RS.bumpV (h : RS q w st) (k : Nat) : RS q (w.setCell ⟨q.b.bv, k, none⟩ (.int .i64 ((st.V k + 1 : Nat) : Int))) ⟨st.A, zBP st.V k, st.bad⟩ := by
  have hc : Chg (fun b => b = q.b.bv) w (w.setCell ⟨q.b.bv, k, none⟩ (.int .i64 ((st.V k + 1 : Nat) : Int))) := (Chg.refl (fun b => b = q.b.bv) w).setCell (p := ⟨q.b.bv, k, none⟩) (.inr rfl) _
  have hn : ∀ b, b < w.heap.size → q.ok b → ¬ b = q.b.bv ∧ q.ok b := fun b _ ho => ⟨fun e => ho.2 (.inr (.inr e)), ho⟩
  exact ⟨h.row.chg hc h.ne.2.1, h.rA.chg hc h.ne.2.2, by rw [← zEy]; exact h.rV.set k _, h.ne, h.s.go hc hn (by decide), h.par.go hc hn (by decide), h.rr.go hc hn (by decide), h.dd.go hc hn (by decide), h.ff.go hc hn (by decide), h.cols.go hc hn (by decide), h.hd.go hc hn, zLS h.B0 hc.size⟩
theorem RS.atA (h : RS q w st) {k : Nat} (hk : k < q.b.m) : w.cell? ⟨q.b.bk, k, none⟩ = some (.int .i64 (st.A k : Int)) := by rw [h.rA.cell]; simp [zBj, hk]
theorem RS.atV (h : RS q w st) {k : Nat} (hk : k < q.b.m) : w.cell? ⟨q.b.bv, k, none⟩ = some (.int .i64 (st.V k : Int)) := by rw [h.rV.cell]; simp [zBj, hk]
theorem RS.kindAt (h : RS q w st) {i : Nat} (hi : i < q.b.l.length) : ∃ b o, q.b.sa = some ⟨b, o, none⟩ ∧ q.ok b ∧ w.cell? ⟨b, o + i * 4 + 1, none⟩ = some (.int .i64 (flN q.b.l i).rep) ∧ w.cell? ⟨b, o + i * 4 + 2, none⟩ = some (.int .i64 (flN q.b.l i).kind) := by
  obtain ⟨b, o, e, hk, hc⟩ := h.s.pos (show 0 < q.b.l.length by omega)
  obtain ⟨f0, f1, f2, f3⟩ := yB q.b.l i hi
  have e2 : q.b.l[i] = flN q.b.l i := (qS hi).symm
  rw [e2] at f1 f2
  exact ⟨b, o, e, hk, by rw [zLR]; exact hc _ _ f1, by rw [zLR]; exact hc _ _ f2⟩
theorem RS.intAt {z : List Int} {a : Option Addr} {n c : Nat} (h : Sl q.ok w 1 a n c (zQ z)) {i : Nat} (hi : i < z.length) : ∃ b o, a = some ⟨b, o, none⟩ ∧ q.ok b ∧ w.cell? ⟨b, o + i, none⟩ = some (.int .i64 z[i]) := by
  have hl := h.len
  have : (zQ z).length = z.length := by simp [zQ]
  obtain ⟨b, o, e, hk, hc⟩ := h.pos (by omega)
  exact ⟨b, o, e, hk, hc _ _ (zO z i hi)⟩
theorem RS.colAt (h : RS q w st) (hm : q.b.L.length = q.b.m) {k : Nat} (hk : k < q.b.m) : ∃ b o a0 c0 a1 c1 a2 c2, q.b.ca = some ⟨b, o, none⟩ ∧ q.ok b ∧ w.cell? ⟨b, o + k * 3, none⟩ = some (.slice a0 (q.b.X k).r.length c0) ∧ w.cell? ⟨b, o + k * 3 + 1, none⟩ = some (.slice a1 (q.b.X k).d.length c1) ∧ w.cell? ⟨b, o + k * 3 + 2, none⟩ = some (.slice a2 (q.b.X k).v.length c2) ∧ zBi q.ok w (q.b.X k) a0 c0 a1 c1 a2 c2 := by
  have hk' : k < q.b.L.length := by omega
  obtain ⟨b, o, e, hok, hc⟩ := h.cols.pos (by omega)
  obtain ⟨a0, c0, a1, c1, a2, c2, h0, h1, h2, h3⟩ := h.hd.get k hk'
  rw [← BQ.X_eq hk'] at h0 h1 h2 h3
  exact ⟨b, o, a0, c0, a1, c1, a2, c2, e, hok, hc _ _ h0, by rw [zLR]; exact hc _ _ h1, by rw [zLR]; exact hc _ _ h2, h3⟩
theorem RS.bx (h : RS q w st) : w.cell? ⟨q.b.bx, 0, none⟩ = some (.slice q.b.sa q.b.n q.b.sc) ∧ w.cell? ⟨q.b.bx, 1, none⟩ = some (.slice q.pa q.b.n q.pc) ∧ w.cell? ⟨q.b.bx, 2, none⟩ = some (.slice q.ra q.b.n q.rc) ∧ w.cell? ⟨q.b.bx, 3, none⟩ = some (.slice q.da q.b.n q.dc) ∧
    w.cell? ⟨q.b.bx, 4, none⟩ = some (.slice q.fa q.b.n q.fc) ∧ w.cell? ⟨q.b.bx, 5, none⟩ = some (.slice q.b.ca q.b.m q.b.cc) ∧ w.cell? ⟨q.b.bx, 6, none⟩ = some (.slice (some ⟨q.b.bk, 0, none⟩) q.b.m q.b.m) ∧ w.cell? ⟨q.b.bx, 7, none⟩ = some (.slice (some ⟨q.b.bv, 0, none⟩) q.b.m q.b.m) ∧ w.cell? ⟨q.b.bx, 8, none⟩ = some (.bool st.bad) :=
  ⟨h.row.cell 0, h.row.cell 1, h.row.cell 2, h.row.cell 3, h.row.cell 4, h.row.cell 5, h.row.cell 6, h.row.cell 7, h.row.cell 8⟩
theorem zBa {l : List Fl} {i : Nat} (hi : i < (qO l).length) (hk : (flN l i).kind ≠ 0) : (qO l)[i] = (kb l i : Int) := by simp [qO, hk, kb]
end
theorem zIe (q : RQ) (hx : RX q) {st : As} {i j0 : Nat} (w : World) (h : RS q w st) (hij : i ≤ j0) (hj : j0 < q.b.l.length) (hk : (flN q.b.l j0).kind ≠ 0) (hlow : ∀ j, i ≤ j → j < j0 → (flN q.b.l j).kind = 0) :
    Calls Try.prog 51 #[.pointer (some ⟨q.b.bx, 0, none⟩), .int .i64 (i : Int)] w fun e w' => e = .returned (.int .i64 (kb q.b.l i : Int)) ∧ w' = w := by
  have hsm := hx.small
  obtain ⟨q0, q1, q2, q3, q4, q5, q6, q7, q8⟩ := h.bx
  obtain ⟨sb, so, hsa, _, _, _⟩ := h.kindAt hj
  obtain ⟨fb, fo, hfa, _, f0⟩ := RS.intAt h.ff (i := j0) (by rw [qU]; exact hj)
  rw [zBa _ hk] at f0
  rw [hsa] at q0
  rw [hfa] at q4
  have HS := zH h
  have HSA := zH hsa
  have hn : q.b.n = q.b.l.length := rfl
  rw [hn] at q0 q4
  have HKB : Hid (∀ j, i ≤ j → j ≤ j0 → kb q.b.l j = kb q.b.l i) := zH (fun j h1 => by
    induction j with
    | zero => intro _; obtain rfl : i = 0 := by omega
              rfl
    | succ j ih =>
      intro h2
      by_cases e : i = j + 1
      · rw [e]
      · rw [zBl (hlow j (by omega) (by omega)), ih (by omega) (by omega)])
  have HLOW := zH hlow
  clear h hx hsa hfa hlow q1 q2 q3 q5 q6 q7 q8 hn
  go_enter Try.func51, Try.ntmps51
  go_wp2_with fail
  go_loopw [1] (fun jv wr => ∃ j : Nat, jv = .int .i64 (j : Int) ∧ i ≤ j ∧ j ≤ j0 ∧ wr = w) (fun jv _ => j0 - (intOf jv).toNat)
  case atStart => exact ⟨i, rfl, zLT _, hij, rfl⟩
  case round =>
    obtain ⟨j, rfl, h1, h2, rfl⟩ := hrel
    obtain ⟨sb', so', hsa', _, _, f2⟩ := HS.out.kindAt (show j < q.b.l.length by omega)
    rw [HSA.out] at hsa'
    cases hsa'
    have hj1 : (j : Int) < (q.b.l.length : Int) := by omega
    by_cases e : j = j0
    · subst e
      have hkb : ((flN q.b.l j).kind == 0) = false := beq_eq_false_iff_ne.2 hk
      have HK := HKB.out j h1 h2
      rw [HK] at f0
      generalize (flN q.b.l j).kind = kd at *
      clear HKB HLOW HSA HK
      go_wp2_with fail
      go_ret
      exact ⟨rfl, rfl⟩
    · rw [HLOW.out j h1 (by omega)] at f2
      clear f0
      go_wp2_with fail
      go_roundw
      case rel => exact ⟨j + 1, by go_num, by omega, by omega, trivial⟩
      case measure => simp [intOf]; omega
theorem zBy (q : RQ) (hx : RX q) {st : As} {k : Nat} (w : World) (h : RS q w st) (hk : k < q.b.m) :
    Calls Try.prog 52 #[.pointer (some ⟨q.b.bx, 0, none⟩), .int .i64 (k : Int)] w fun e w' => e = .returned (.tuple #[.int .i64 (yV q.b st k).1, .int .i64 (yV q.b st k).2]) ∧ Below w.heap.size w w' := by
  have hsm := hx.small
  obtain ⟨_, _, _, _, _, q5, q6, _, _⟩ := h.bx
  have hA := h.atA hk
  obtain ⟨cb0, co, a0, c0, a1, c1, a2, c2, hca, _, hc0, hc1, hc2, hcl⟩ := h.colAt hx.m hk
  rw [hca] at q5
  have hk1 : (k : Int) < (q.b.m : Int) := by omega
  have HB := zH (b0 w)
  have HCL := zH hcl
  clear h hx hcl hc2 hca
  go_enter Try.func52, Try.ntmps52
  by_cases hl : st.A k < lenX q.b k
  · have hlr : st.A k < (q.b.X k).r.length := by unfold lenX at hl; omega
    have hld : st.A k < (q.b.X k).d.length := by unfold lenX at hl; omega
    have hnr : ¬ ((q.b.X k).r.length : Int) ≤ (st.A k : Int) := by omega
    have hnd : ¬ ((q.b.X k).d.length : Int) ≤ (st.A k : Int) := by omega
    have hlr' : (st.A k : Int) < ((q.b.X k).r.length : Int) := by omega
    have hld' : (st.A k : Int) < ((q.b.X k).d.length : Int) := by omega
    obtain ⟨rb, ro, hra, _, hrc⟩ := HCL.out.r.pos (by omega)
    obtain ⟨db, dof, hda, _, hdc⟩ := HCL.out.d.pos (by omega)
    have z0 := hrc _ _ (zO _ _ hlr)
    have z1 := hdc _ _ (zO _ _ hld)
    subst hra; subst hda
    have HE : Hid (yV q.b st k = ((q.b.X k).r[st.A k], (q.b.X k).d[st.A k])) := zH (by
      unfold yV; rw [if_pos hl]; simp [zLP, hlr, hld])
    generalize (q.b.X k).r[st.A k] = x0 at *
    generalize (q.b.X k).d[st.A k] = x1 at *
    generalize (q.b.X k).r.length = nr at *
    generalize (q.b.X k).d.length = nd at *
    generalize st.A k = A at *
    clear hl hrc hdc HCL
    have HZ := zH (zLQ q5 (zLQ hc0 (zLQ hc1 (zLQ z0 z1))))
    clear z0 z1
    go_upto_region 4 with fail
    clear q5 q6 hA hc0 hc1 hnr hnd
    refine zF (fun w' => w'.cell? ⟨q.b.bx, 5, none⟩ = some (.slice (some ⟨cb0, co, none⟩) q.b.m q.b.cc) ∧ w'.cell? ⟨cb0, co + k * 3, none⟩ = some (.slice (some ⟨rb, ro, none⟩) nr c0) ∧ w'.cell? ⟨cb0, co + k * 3 + 1, none⟩ = some (.slice (some ⟨db, dof, none⟩) nd c1) ∧ w'.cell? ⟨rb, ro + A, none⟩ = some (.int .i64 x0) ∧ w'.cell? ⟨db, dof + A, none⟩ = some (.int .i64 x1)) [] (by kernel_rfl) ?g66rgS (fun hHeld => ?g66rgR)
    case g66rgS => (try dsimp only); (exact HZ.out)
    try dsimp only at hHeld
    refine zD [0, 1, 2, 3, 4, 5, 6, 7, 8, 9, 10, 11, 12, 13, 14, 15, 16, 17, 18, 19, 20, 21, 22, 23] 0 (by kernel_rfl) (fun _ _ _ _ _ h => h) (by assumption) ?_
    iterate 24 ((apply YA.take rfl (by rfl); case hy => rintro w ⟨s0, s1, s2, s3, s4⟩; go_simp; try with_reducible rfl); try simp only [pD])
    refine YA.nil ?_
    refine zE (by kernel_rfl) ?_
    clear hHeld
    go_wp2_with fail
    go_ret2
    exact ⟨by rw [HE.out]; rfl, HB.out.drew⟩
  · have HE : Hid (yV q.b st k = (-1, -1)) := zH (by unfold yV; rw [if_neg hl])
    clear HCL
    by_cases hlr : st.A k < (q.b.X k).r.length
    · have hnd : ((q.b.X k).d.length : Int) ≤ (st.A k : Int) := by unfold lenX at hl; omega
      have hnr : ¬ ((q.b.X k).r.length : Int) ≤ (st.A k : Int) := by omega
      generalize (q.b.X k).r.length = nr at *
      generalize (q.b.X k).d.length = nd at *
      generalize st.A k = A at *
      clear hl hlr
      go_wp2_with fail
      go_ret2
      exact ⟨by rw [HE.out]; rfl, HB.out⟩
    · have hnr : ((q.b.X k).r.length : Int) ≤ (st.A k : Int) := by omega
      generalize (q.b.X k).r.length = nr at *
      generalize (q.b.X k).d.length = nd at *
      generalize st.A k = A at *
      clear hl hlr
      go_wp2_with fail
      go_ret2
      exact ⟨by rw [HE.out]; rfl, HB.out⟩
def zLH (q : RQ) (st' : As) (w : World) (e : Ending) (w' : World) : Prop := e = .returned (.tuple #[]) ∧ RS q w' st' ∧ Chg q.ch w w'
def zIw (q : RQ) (s : Sh) : Prop := ∀ (i : Nat) (st : As) (w : World), Ix q.b.l (fun v => zK (par q.b.l) v) i s → i + s.size ≤ q.b.l.length → zR s → RS q w st → Low q.b (kb q.b.l i) (kb q.b.l (i + s.size)) st →
  Calls Try.prog 53 #[.pointer (some ⟨q.b.bx, 0, none⟩), .int .i64 (i : Int)] w (zLH q (jD q.b (wN q.b i s) (kb q.b.l i) st) w)
theorem zDE {q : RQ} {w w' : World} (h : Below w.heap.size w w') : Chg q.ch w w' := (chF h).mono (fun _ _ h => h.elim)
theorem kbm {q : RQ} {i : Nat} (hi : i < q.b.l.length) (hk : (flN q.b.l i).kind ≠ 0) : kb q.b.l i < q.b.m := by
  have h1 := yS q.b.l (show i + 1 ≤ q.b.l.length by omega)
  rw [jH, if_neg hk, zBN] at h1
  show _ < (zG q.b.l q.b.l.length).length
  omega
theorem zE0 (q : RQ) (hx : RX q) (s : Sh) (hk : s.kind ≠ 0) : zIw q s := by
  intro i st w hix hn hg h hlo
  obtain ⟨nm, rp, kd, ks⟩ := s
  simp only [Sh.kind] at hk
  simp only [zR] at hg
  have hks := hg.2.2.2.2.1 hk
  subst hks
  simp only [Ix] at hix
  simp only [Sh.size, zC, zLU] at hn hlo
  have hi : i < q.b.l.length := by omega
  have hkd : (flN q.b.l i).kind = kd := by unfold flN; rw [zLP, hix.1]; rfl
  have hki : (flN q.b.l i).kind ≠ 0 := by rw [hkd]; exact hk
  have hkm := kbm hi hki
  have hcn : wN q.b i (.mk nm rp kd []) = 1 := by unfold wN; simp only [Sh.size, zC, zLU]; rw [jH, if_neg hki]; omega
  rw [hcn]
  rw [jH, if_neg hki] at hlo
  have hA0 := hlo (kb q.b.l i) (zLT _) (by omega)
  have hlen := hx.lenX (kb q.b.l i)
  have hAl : st.A (kb q.b.l i) ≤ 1000000 := by omega
  have hsm := hx.small
  obtain ⟨q0, q1, q2, q3, q4, q5, q6, q7, q8⟩ := h.bx
  obtain ⟨sb, so, hsa, hsok, _, f2⟩ := h.kindAt hi
  obtain ⟨fb, fo, hfa, hfok, f0⟩ := RS.intAt h.ff (i := i) (by rw [qU]; exact hi)
  rw [zBa _ hki] at f0
  have hkb : ((flN q.b.l i).kind != 0) = true := by simpa using hki
  have hi1 : (i : Int) < (q.b.l.length : Int) := by omega
  have hnn : q.b.n = q.b.l.length := rfl
  rw [hsa, hnn] at q0
  rw [hfa, hnn] at q4
  have HS := zH h; have HX := zH hx
  have HFA := zH hfa
  have HFL : Hid (∀ (hz : i < (qO q.b.l).length), (qO q.b.l)[i] = (kb q.b.l i : Int)) := zH (fun hz => zBa hz hki)
  show Calls _ _ _ _ (zLH q ⟨zBP st.A (kb q.b.l i), st.V, st.bad || decide ((yV q.b st (kb q.b.l i)).1 < 0)⟩ w)
  generalize (flN q.b.l i).kind = kk at *
  clear h hx hsa hfa q1 q2 q3 q5 q6 q7 q8 hnn hlo hcn hix hg hkd hn hki hA0 hlen
  go_enter Try.func53, Try.ntmps53
  go_wp2_with fail
  refine (zBy q HX.out w HS.out hkm).mono ?_
  rintro e w2 ⟨rfl, hb2⟩
  have HS2 := zH (HS.out.below hb2)
  have HB2 := zH hb2
  have q8 := HS2.out.bx.2.2.2.2.2.2.2.2
  have qf := HS2.out.row.frozen; have ql := HS2.out.row.lt
  generalize yV q.b st (kb q.b.l i) = cx at *
  clear q0 q4 f0 f2 hb2
  go_upto_region 2 with fail
  go_cut [] from 28 to 38 (fun wc => Hid (RS q wc ⟨st.A, st.V, st.bad || decide (cx.1 < 0)⟩) ∧ Hid (Chg q.ch w wc))
  case first =>
    have HR : Hid (∀ B, B = (st.bad || decide (cx.1 < 0)) → RS q (w2.setCell ⟨q.b.bx, 8, none⟩ (.bool B)) ⟨st.A, st.V, st.bad || decide (cx.1 < 0)⟩ ∧ Chg q.ch w (w2.setCell ⟨q.b.bx, 8, none⟩ (.bool B))) := zH (fun B hB => by
      subst hB
      exact ⟨HS2.out.setBad _, (zDE HB2.out).setCell (p := ⟨q.b.bx, 8, none⟩) (.inr (.inl rfl)) _⟩)
    generalize st.bad = bad at *
    clear HS2 HB2 HS
    cases bad with
    | true =>
      go_wp2_with fail
      go_meet
      case rel => have := HR.out true rfl; exact ⟨zH this.1, zH this.2⟩
    | false =>
      by_cases hc : cx.1 < 0
      · go_wp2_with fail
        go_meet
        case rel => have := HR.out true (by simp [hc]); exact ⟨zH this.1, zH this.2⟩
      · go_wp2_with fail
        go_meet
        case rel => have := HR.out false (by simp [hc]); exact ⟨zH this.1, zH this.2⟩
  case rest =>
    obtain ⟨HS3, HC3⟩ := hcut
    clear q8 qf ql HS2
    obtain ⟨_, _, _, _, q4, _, q6, _, _⟩ := HS3.out.bx
    obtain ⟨fb', fo', hfa', _, f0⟩ := RS.intAt HS3.out.ff (i := i) (by rw [qU]; omega)
    rw [HFA.out] at hfa' q4
    cases hfa'
    rw [HFL.out] at f0
    have hAt : wc.cell? ⟨q.b.bk, kb q.b.l i, none⟩ = some (.int .i64 (st.A (kb q.b.l i) : Int)) := HS3.out.atA hkm
    have hkm1 : (kb q.b.l i : Int) < (q.b.m : Int) := by omega
    have hii : (i : Int) < (q.b.n : Int) := hi1
    have HZ := zH (zLQ q4 (zLQ f0 (zLQ q6 hAt)))
    have HN := zH (HS3.out.bumpA (kb q.b.l i))
    have HCN := zH (HC3.out.setCell (p := ⟨q.b.bk, kb q.b.l i, none⟩) (.inr (.inr (.inl rfl))) (.int .i64 ((st.A (kb q.b.l i) + 1 : Nat) : Int)))
    have hf := HS3.out.rA.frozen; have hl := HS3.out.rA.lt
    generalize kb q.b.l i = k at *
    generalize st.A k = A at *
    clear q4 q6 f0 hAt HS HS3 HC3 HFL
    go_upto_region 3 with fail
    have hwa : IntKind.i64.wrap ((A : Int) + 1) = ((A + 1 : Nat) : Int) := by rw [IntKind.wrap_i64]; omega
    refine zF (fun w' => w'.cell? ⟨q.b.bx, 4, none⟩ = some (.slice (some ⟨fb, fo, none⟩) q.b.n q.fc) ∧ w'.cell? ⟨fb, fo + i, none⟩ = some (.int .i64 (k : Int)) ∧ w'.cell? ⟨q.b.bx, 6, none⟩ = some (.slice (some ⟨q.b.bk, 0, none⟩) q.b.m q.b.m) ∧ w'.cell? ⟨q.b.bk, k, none⟩ = some (.int .i64 (A : Int))) [15] (by kernel_rfl) ?g67rgS (fun hHeld => ?g67rgR)
    case g67rgS => (try dsimp only); (exact HZ.out)
    try dsimp only at hHeld
    refine zD [0, 1, 2, 3, 4, 5, 6, 7, 8, 9, 10, 11, 12, 13, 14] 1 (by kernel_rfl) (fun _ _ _ _ _ h => h) (by assumption) ?_
    iterate 15 ((apply YA.take rfl (by rfl); case hy => rintro w ⟨s0, s1, s2, s3⟩; go_simp; try with_reducible rfl); try simp only [pD])
    refine YA.nil ?_
    refine zB [15] (by kernel_rfl) (by simp) ?_
    refine zA.lst 15 rfl (by kernel_rfl) (fun K hK => ?g67ro1) ?g67rm1
    case g67rm1 => exact zA.nil
    (obtain ⟨_, _, _, s3⟩ := hHeld); go_simp
    refine hK.out _ _ ?_
    clear hK K
    try simp only [pD]
    refine zE (by kernel_rfl) ?_
    clear hwa
    go_wp2_with fail
    refine bodyPost_ret (v := .tuple #[]) (by simp [results, Try.results53, go_sem]) rfl ?_
    exact ⟨rfl, HN.out.below (b0 _).drew, HCN.out.drew⟩
theorem zFE (q : RQ) (hxx : RX q) (nm : ByteArray) (rp : Int) (ks : List Sh) (IH : ∀ s ∈ ks, zIw q s) : zIw q (.mk nm rp 0 ks) := by
  intro i st w hx hn hg h hlo
  simp only [zR] at hg
  simp only [Ix] at hx
  simp only [Sh.size] at hn hlo
  have hsm := hxx.small
  have hi : i < q.b.l.length := by omega
  have hki : (flN q.b.l i).kind = 0 := by unfold flN; rw [zLP, hx.1]; rfl
  obtain ⟨q0, _, _, _, _, _, _, _, _⟩ := h.bx
  obtain ⟨sb, so, hsa, hsok, _, f2⟩ := h.kindAt hi
  rw [hki] at f2
  have hnn : q.b.n = q.b.l.length := rfl
  rw [hsa, hnn] at q0
  have hi1 : (i : Int) < (q.b.l.length : Int) := by omega
  have hpl := zW q.b.l
  have e1 : kb q.b.l (i + 1) = kb q.b.l i := zBl hki
  have HRS : Hid (rest (par q.b.l) i (i + 1) = yX (i + 1 + zC []) ks) := zH (by
    rw [wD (fun j hj => (yI q.b.l j hj).2), ← wJ]; exact hx.2.1)
  have HLO : Hid (Low q.b (kb q.b.l (i + 1)) (kb q.b.l (i + 1 + zC ks)) st) := zH (by rw [e1]; rwa [show i + 1 + zC ks = i + (1 + zC ks) by omega])
  have HEND : Hid (jD q.b (wN q.b i (.mk nm rp 0 ks)) (kb q.b.l i) st = jD q.b (kb q.b.l (i + 1 + zC ks) - kb q.b.l (i + 1)) (kb q.b.l (i + 1)) st) := zH (by
    unfold wN; rw [e1]; simp only [Sh.size]; rw [show i + (1 + zC ks) = i + 1 + zC ks by omega])
  have HQ := zH h; have HIX := zH hx.2.2; have HGL := zH hg.2.2.2.2.2.2; have HIH := zH IH; have HN := zH hn
  clear h hx hg IH hki hsa e1 hlo hn
  go_enter Try.func53, Try.ntmps53
  go_wp2_with fail
  clear q0 f2
  go_loopw [6] (fun jv wr => ∃ (done todo : List Sh) (j : Nat), jv = .int .i64 (j : Int) ∧ i < j ∧ j ≤ q.b.l.length ∧ Hid (ks = done ++ todo) ∧ Hid (rest (par q.b.l) i j = yX (i + 1 + zC done) todo) ∧ Hid (RS q wr (jD q.b (kb q.b.l (i + 1 + zC done) - kb q.b.l (i + 1)) (kb q.b.l (i + 1)) st)) ∧ Hid (Chg q.ch w wr)) (fun jv _ => q.b.l.length - (intOf jv).toNat)
  case atStart => exact ⟨[], ks, i + 1, by first | rfl | go_num, by omega, by omega, zH rfl, HRS, zH (by simpa [zC, jD] using HQ.out), zH (Chg.refl _ w)⟩
  case round =>
    obtain ⟨done, todo, j, rfl, hij, hj, HD, HR, HS, HT⟩ := hrel
    obtain ⟨q0, q1, _, _, _, _, _, _, _⟩ := HS.out.bx
    rw [hnn] at q0 q1
    by_cases hlt : j < q.b.l.length
    · have hjp : j < (par q.b.l).length := by omega
      obtain ⟨pb, po, hpa, hpb, c0⟩ := RS.intAt HS.out.par hjp
      rw [hpa] at q1
      by_cases hp : (par q.b.l)[j] = (i : Int)
      · have hbe : ((par q.b.l)[j] == (i : Int)) = true := beq_iff_eq.2 hp
        have hry := zAU hjp hp
        rw [HR.out] at hry
        obtain ⟨s, qq, rfl, hjo, hr2⟩ := zAK hry
        have hjo' : j = i + 1 + zC done := by omega
        have hdl : done.length < ks.length := by have := congrArg List.length HD.out; simp at this; omega
        obtain ⟨_, hixs, hos⟩ := zAv ks (i + 1) done.length hdl HIX.out
        have hsk : ks[done.length] = s := by simp [HD.out]
        have htd : ks.take done.length = done := by rw [HD.out]; simp
        rw [htd, hsk, ← hjo'] at hixs
        rw [htd, hsk] at hos
        have hsm : s ∈ ks := by rw [HD.out]; simp
        have hsg := wM HGL.out hsm
        have HNX : Hid (ks = (done ++ [s]) ++ qq) := zH (by rw [HD.out]; simp)
        have HR2 : Hid (rest (par q.b.l) i (j + 1) = yX (i + 1 + zC (done ++ [s])) qq) := zH (by
          rw [hr2, yA]; simp only [zC, zLU, ← zLR])
        have hssz : zC (done ++ [s]) = zC done + s.size := by rw [yA]; simp [zC]
        have hkk : zC ks = zC done + s.size + zC qq := by rw [HNX.out, yA, hssz]
        have m1 := yS q.b.l (show i + 1 ≤ j by omega)
        have m2 := yS q.b.l (show j ≤ j + s.size by omega)
        have m3 := yS q.b.l (show j + s.size ≤ i + 1 + zC ks by omega)
        have HSN : Hid (jD q.b (wN q.b j s) (kb q.b.l j) (jD q.b (kb q.b.l (i + 1 + zC done) - kb q.b.l (i + 1)) (kb q.b.l (i + 1)) st) = jD q.b (kb q.b.l (i + 1 + zC (done ++ [s])) - kb q.b.l (i + 1)) (kb q.b.l (i + 1)) st) := zH (by
          rw [hssz, ← hjo', ← zLR, ← hjo']
          have := zEu q.b (kb q.b.l j - kb q.b.l (i + 1)) (wN q.b j s) (kb q.b.l (i + 1)) st
          rw [show kb q.b.l (i + 1) + (kb q.b.l j - kb q.b.l (i + 1)) = kb q.b.l j by omega] at this
          rw [← this]
          congr 1
          unfold wN; omega)
        have HLX : Hid (Low q.b (kb q.b.l j) (kb q.b.l (j + s.size)) (jD q.b (kb q.b.l (i + 1 + zC done) - kb q.b.l (i + 1)) (kb q.b.l (i + 1)) st)) := zH (by
          rw [← hjo']
          have hb := zCd q.b (kb q.b.l j - kb q.b.l (i + 1)) (kb q.b.l (i + 1)) st (fun k h1 h2 => HLO.out k h1 (by omega))
          exact hb.lowOut (fun k h1 h2 => HLO.out k (by omega) (by omega)) (.inl (by omega)))
        have HV := zH (HIH.out s hsm)
        have HIXS := zH hixs; have HSG := zH hsg
        have hon : j + s.size ≤ q.b.l.length := by have := HN.out; omega
        generalize (par q.b.l)[j] = pj at *
        subst hp
        clear hry hr2 hjo' hdl hixs hos hsk htd hsm hsg hpa hpb hjo hssz hkk m1 m2 m3
        go_wp2_with fail
        refine (HV.out j _ wr HIXS.out hon HSG.out HS.out HLX.out).mono ?_
        rintro e w2 ⟨rfl, hs2, ht2⟩
        rw [HSN.out] at hs2
        have HS2 := zH hs2
        have HT2 := zH (HT.out.trans ht2 (fun _ _ h => h))
        clear hs2 ht2 c0 q0 q1
        go_wp2_with fail
        go_roundw
        case rel => exact ⟨done ++ [s], qq, j + 1, by go_num, by omega, by omega, HNX, HR2, HS2, HT2⟩
        case measure => simp [intOf]; omega
      · have hbe : ((par q.b.l)[j] == (i : Int)) = false := beq_eq_false_iff_ne.2 hp
        have HR2 : Hid (rest (par q.b.l) i (j + 1) = yX (i + 1 + zC done) todo) := zH (by rw [← zBK hjp hp]; exact HR.out)
        generalize (par q.b.l)[j] = pj at *
        clear hpa hpb
        go_wp2_with fail
        go_roundw
        case rel => exact ⟨done, todo, j + 1, by go_num, by omega, by omega, HD, HR2, HS, HT⟩
        case measure => simp [intOf]; omega
    · obtain rfl : j = q.b.l.length := by omega
      have hre := zAV (P := par q.b.l) (v := (i : Int)) (i := q.b.l.length) (by omega)
      rw [HR.out] at hre
      obtain rfl := zBv hre
      have hd' : ks = done := by rw [HD.out]; simp
      subst hd'
      clear hre
      go_wp2_with fail
      refine bodyPost_end (v := .tuple #[]) (by simp [results, Try.results53, go_sem]) rfl ?_
      exact ⟨rfl, by rw [HEND.out]; exact HS.out, HT.out⟩
theorem zBS {s : Sh} : ∀ {ks : List Sh}, s ∈ ks → s.size ≤ zC ks
  | x :: q, h => by
    rcases List.mem_cons.1 h with rfl | h
    · simp [zC]
    · have := zBS h; simp only [zC]; omega
theorem zCI (q : RQ) (hx : RX q) : ∀ (N : Nat) (s : Sh), s.size ≤ N → zIw q s
  | 0, .mk _ _ _ _, h => by simp [Sh.size] at h
  | N + 1, .mk nm rp kd ks, h => by
    by_cases hk : kd = 0
    · subst hk
      simp only [Sh.size] at h
      exact zFE q hx nm rp ks (fun s hs => zCI q hx N s (by have := zBS hs; omega))
    · exact zE0 q hx _ hk
def RVQ (q : RQ) (p : Tr × As) (w : World) (e : Ending) (w' : World) : Prop :=
 ∃ (a : Option Addr) (c : Nat), e = .returned (.agg #[.int .i64 p.1.n, .string p.1.s, .slice a p.1.kids.length c]) ∧ TrG (fun b => w.heap.size ≤ b) w' p.1 [.int .i64 p.1.n, .string p.1.s, .slice a p.1.kids.length c] ∧ RS q w' p.2 ∧ Chg q.ch w w'
theorem RVQ.leaf3 {q : RQ} {st : As} {w wz : World} {n : Int} {s : ByteArray} (hs : s.size ≤ maxLen) (h : RS q w st) {st' : As} (hz : RS q wz st') (hc : Chg q.ch w wz) {b : Nat} (hb : w.heap.size ≤ b) {u0 u1 u2 : Value} :
  RVQ q (.mk n s [], st') w (.returned (.agg #[.int .i64 n, .string s, .slice none 0 0])) (((wz.setCell ⟨b, 0, none⟩ u0).setCell ⟨b, 1, none⟩ u1).setCell ⟨b, 2, none⟩ u2) := by
 refine ⟨none, 0, rfl, TrG.leaf hs, hz.other (h.new hb) (zLS h.B0 hb) (zD8 (Chg.refl (fun k => k = b) wz) rfl) (fun k hk => hk), ?_⟩
 exact ((hc.setCell (p := ⟨b, 0, none⟩) (.inl hb) u0).setCell (p := ⟨b, 1, none⟩) (.inl hb) u1).setCell (p := ⟨b, 2, none⟩) (.inl hb) u2
theorem zHU (q : RQ) (hx : RX q) {st : As} {i : Nat} (w : World) (h : RS q w st) (hi : i < q.b.l.length) (hki : (flN q.b.l i).kind ≠ 0) (hA0 : st.A (kb q.b.l i) ≤ lenX q.b (kb q.b.l i)) :
  Calls Try.prog 50 #[.pointer (some ⟨q.b.bx, 0, none⟩), .int .i64 (i : Int)] w (RVQ q (zA9 q.b st (kb q.b.l i)) w) := by
 have hkm := kbm hi hki
 have hlen := hx.lenX (kb q.b.l i)
 have hAl : st.A (kb q.b.l i) ≤ 1000000 := by omega
 have hsm := hx.small
 obtain ⟨_, _, _, _, q4, _, _, _, _⟩ := h.bx
 obtain ⟨fb, fo, hfa, hfok, f0⟩ := RS.intAt h.ff (i := i) (by rw [qU]; exact hi)
 rw [zBa _ hki] at f0
 have hi1 : (i : Int) < (q.b.l.length : Int) := by omega
 have hnn : q.b.n = q.b.l.length := rfl
 rw [hfa, hnn] at q4
 have HS := zH h; have HX := zH hx
 generalize kb q.b.l i = k at *
 clear h hx hfa hnn hki hA0 hlen
 go_enter Try.func50, Try.ntmps50
 go_upto_region 1 with fail
 refine yE (fun w1 hw1 => ?_)
 have hb1 : Below w.heap.size w w1 := by rw [hw1]; exact ba (b0 w) _
 have r4 : Rw w1 w.heap.size #[.int .i64 0, .string ByteArray.empty, .slice none 0 0] 57 := by rw [hw1]; exact Rw.new w _ _
 clear hw1
 replace q4 := cb hb1 q4; replace f0 := cb hb1 f0
 have HB1 := zH hb1; have R4 := zH r4
 clear hb1 r4
 go_wp2_with fail
 refine (zBy q HX.out w1 (HS.out.below HB1.out) hkm).mono ?_
 rintro e w2 ⟨rfl, hb2⟩
 have HB2 := zH (bt HB1.out hb2)
 have HS2 := zH (HS.out.below HB2.out)
 have R42 := zH (R4.out.below hb2)
 have hbl := R42.out.lt
 clear q4 f0 hb2
 obtain ⟨bt4, hbt⟩ : ∃ b, b = w.heap.size := ⟨_, rfl⟩
 have HNW := zH (HS.out.new (b := bt4) (by omega))
 rw [← hbt] at R42 hbl ⊢
 have HLE := zH (show w.heap.size ≤ bt4 by omega)
 clear hbt
 obtain ⟨_, _, _, _, _, q5, q6, q7, q8⟩ := HS2.out.bx
 obtain ⟨cb0, co, a0, c0, a1, c1, a2, c2, hca, hcok, hc0, hc1, hc2, hcl⟩ := HS2.out.colAt HX.out.m hkm
 have hV := HS2.out.atV hkm
 rw [hca] at q5
 have hk1 : (k : Int) < (q.b.m : Int) := by omega
 have HZ := zH (zLQ q5 (zLQ hc2 (zLQ q7 hV)))
 have HCL := zH hcl
 obtain ⟨nv, hnv⟩ : ∃ nv, nv = (q.b.X k).v.length := ⟨_, rfl⟩
 have hnvl : nv ≤ 9223372036854775807 := by have := hcl.v.le; have := hcl.v.max; unfold maxLen at this; omega
 obtain ⟨V, hVV⟩ : ∃ V, V = st.V k := ⟨_, rfl⟩
 rw [← hVV] at hV HZ
 rw [← hnv] at hc2 HZ
 clear hcl hca hc0 hc1 hc2 q5 q6 q7 hV
 go_upto_region 3 with fail
 go_cut [42] from 22 to 42 (fun v wc => v = .bool (decide ((yV q.b st k).1 < 0 ∨ nv ≤ V)) ∧ Hid (Below w2.heap.size w2 wc))
 case first =>
  have HB := zH (b0 w2)
  generalize yV q.b st k = cx at *
  clear HS HX HB1 R4 HB2 HS2 R42 HNW HLE HCL hVV hnv
  by_cases hc : cx.1 < 0
  ·have _hz := hc
   clear _hz
   refine zF (fun w' => True) [] (by decide +kernel) ?g68rgS (fun hHeld => ?g68rgR)
   case g68rgS => trivial
   try dsimp only at hHeld
   repeat' first
    | exact zA.nil
    | (refine zD [0, 1, 2, 3, 4, 5, 6, 7, 8, 9, 10, 11, 12, 13, 14, 15, 16, 17, 18, 19, 20] 0 (by decide +kernel) (fun _ _ _ _ _ h => h) (by assumption) ?_; (iterate 21 ((first | (refine YA.skip rfl (by rfl) ?_) | (apply YA.take rfl (by rfl); case hy => intro w hSw; go_simp; try with_reducible rfl)); try simp only [pD])); refine YA.nil ?_)
    | (refine zE (by decide +kernel) ?_)
   go_wp2_with fail
   go_meet
   case rel => exact ⟨by simp [hc], zH HB.out.drew⟩
  ·have _hz := hc
   clear _hz
   refine zF (fun w' => w'.cell? ⟨q.b.bx, 5, none⟩ = some (.slice (some ⟨cb0, co, none⟩) q.b.m q.b.cc) ∧ w'.cell? ⟨cb0, co + k * 3 + 2, none⟩ = some (.slice a2 nv c2) ∧ w'.cell? ⟨q.b.bx, 7, none⟩ = some (.slice (some ⟨q.b.bv, 0, none⟩) q.b.m q.b.m) ∧ w'.cell? ⟨q.b.bv, k, none⟩ = some (.int .i64 (V : Int))) [] (by decide +kernel) ?g69rgS (fun hHeld => ?g69rgR)
   case g69rgS => (try dsimp only); (exact HZ.out)
   try dsimp only at hHeld
   repeat' first
    | exact zA.nil
    | (refine zD [0, 1, 2, 3, 4, 5, 6, 7, 8, 9, 10, 11, 12, 13, 14, 15, 16, 17, 18, 19, 20] 0 (by decide +kernel) (fun _ _ _ _ _ h => h) (by assumption) ?_; (iterate 21 ((first | (refine YA.skip rfl (by rfl) ?_) | (apply YA.take rfl (by rfl); case hy => rintro w ⟨s0, s1, s2, s3⟩; go_simp; try with_reducible rfl)); try simp only [pD])); refine YA.nil ?_)
    | (refine zE (by decide +kernel) ?_)
   clear hHeld
   go_wp2_with fail
   go_meet
   case rel => exact ⟨by simp [hc]; omega, zH HB.out.drew⟩
 case rest =>
  obtain ⟨rfl, HB3⟩ := hcut
  have HS3 := zH (HS2.out.below HB3.out)
  have R43 := zH (R42.out.below HB3.out)
  have HC3 := zH (zDE (q := q) (bt HB2.out HB3.out))
  have hne : bt4 ≠ q.b.bx := fun e => HNW.out (.inl e)
  have hne' : q.b.bx ≠ bt4 := fun e => hne e.symm
  have q8' := HS3.out.bx.2.2.2.2.2.2.2.2
  have qf := HS3.out.row.frozen; have ql := HS3.out.row.lt
  have r0 := R43.out.cell 0; have r1 := R43.out.cell 1; have r2 := R43.out.cell 2; have rf := R43.out.frozen; have rl := R43.out.lt
  simp only [pG] at r0 r1 r2
  by_cases hcond : (yV q.b st k).1 < 0 ∨ nv ≤ V
  ·have HLX : Hid (zA9 q.b st k = (.mk 0 ByteArray.empty [], ⟨st.A, st.V, true⟩)) := zH (by unfold zA9; rw [if_pos (by rw [← hnv, ← hVV]; exact hcond)])
   have hcb : decide ((yV q.b st k).1 < 0 ∨ nv ≤ V) = true := decide_eq_true hcond
   have zr := (R43.out.other (p := ⟨q.b.bx, 8, none⟩) hne (.bool true)).set3 (u0 := .int .i64 0) (u1 := .string ⟨#[]⟩) (u2 := .slice none 0 0)
   have z0 := zr.cell 0; have z1 := zr.cell 1; have z2 := zr.cell 2
   simp only [pG] at z0 z1 z2
   have HQ := zH (RVQ.leaf3 (q := q) (n := 0) (s := ByteArray.empty) (by decide) HS.out (HS3.out.setBad true) (HC3.out.setCell (p := ⟨q.b.bx, 8, none⟩) (.inr (.inl rfl)) (.bool true)) (b := bt4) HLE.out (u0 := .int .i64 0) (u1 := .string ⟨#[]⟩) (u2 := .slice none 0 0))
   generalize (yV q.b st k) = cx at *
   rw [hcb]
   clear hcond zr HS HS2 HS3 HB1 HB2 HB3 R4 R42 R43 HCL HZ hnv hVV
   go_wp2_with fail
   refine bodyPost_ret (v := .agg #[.int .i64 0, .string ByteArray.empty, .slice none 0 0]) (by simp [results, Try.results50, go_sem, z0, z1, z2]; rfl) rfl ?_
   rw [HLX.out]
   exact HQ.out
  ·have hcb : decide ((yV q.b st k).1 < 0 ∨ nv ≤ V) = false := decide_eq_false hcond
   have hVn : V < nv := Nat.lt_of_not_le (fun h => hcond (.inr h))
   have hVl : V < (q.b.X k).v.length := by omega
   obtain ⟨n, hn⟩ : ∃ n, n = (q.b.X k).v[V].n := ⟨_, rfl⟩
   obtain ⟨s, hs⟩ : ∃ s, s = (q.b.X k).v[V].s := ⟨_, rfl⟩
   have HLX : Hid (zA9 q.b st k = (.mk n s [], ⟨zBP st.A k, zBP st.V k, st.bad⟩)) := zH (by
    unfold zA9; rw [if_neg (by rw [← hnv, ← hVV]; exact hcond)]
    have : vX q.b st k = (q.b.X k).v[V] := by unfold vX; rw [← hVV]; simp [zLP, hVl]
    rw [this, hn, hs])
   have HSL := zH (show s.size ≤ maxLen by rw [hs]; exact HX.out.str k _ (List.getElem_mem hVl))
   have hZ3 := HS3.out.colAt HX.out.m hkm
   obtain ⟨vb, vo, hva, hvok, hvc⟩ := (HCL.out.v.go (ok' := q.ok) (chF HB3.out) (fun b _ hb => ⟨fun h => h, hb⟩) (by decide)).pos (by omega)
   obtain ⟨y0, y1⟩ := qL (q.b.X k).v V hVl
   replace y0 := hvc _ _ y0; replace y1 := hvc _ _ y1
   rw [← zLR] at y1
   rw [← hn] at y0; rw [← hs] at y1
   have hz := HZ.out
   rw [hva] at hz
   have HZ3 := zH (zLQ (cb HB3.out hz.1) (zLQ (cb HB3.out hz.2.1) (zLQ (cb HB3.out hz.2.2.1) (zLQ (cb HB3.out hz.2.2.2) (zLQ y0 y1)))))
   have HBad := zH HC3.out
   generalize (yV q.b st k) = cx at *
   rw [hcb]
   have hVn1 : (V : Int) < (nv : Int) := by omega
   have HVV := zH hVV
   clear hcond hcb r0 r1 r2 rf rl q8 q8' qf ql HZ hz hZ3 hvc y0 y1 hva HCL hn hs hVl hVV hnv
   go_upto_region 6 with fail
   refine zF (fun w' => w'.cell? ⟨q.b.bx, 5, none⟩ = some (.slice (some ⟨cb0, co, none⟩) q.b.m q.b.cc) ∧ w'.cell? ⟨cb0, co + k * 3 + 2, none⟩ = some (.slice (some ⟨vb, vo, none⟩) nv c2) ∧ w'.cell? ⟨q.b.bx, 7, none⟩ = some (.slice (some ⟨q.b.bv, 0, none⟩) q.b.m q.b.m) ∧ w'.cell? ⟨q.b.bv, k, none⟩ = some (.int .i64 (V : Int)) ∧ w'.cell? ⟨vb, vo + V * 2, none⟩ = some (.int .i64 n) ∧ w'.cell? ⟨vb, vo + V * 2 + 1, none⟩ = some (.string s)) [18] (by decide +kernel) ?g70rgS (fun hHeld => ?g70rgR)
   case g70rgS => (try dsimp only); (first | exact HZ3.out | exact ⟨cb HBW HZ3.out.1, cb HBW HZ3.out.2.1, cb HBW HZ3.out.2.2.1, cb HBW HZ3.out.2.2.2.1, cb HBW HZ3.out.2.2.2.2.1, cb HBW HZ3.out.2.2.2.2.2⟩)
   try dsimp only at hHeld
   obtain ⟨W, hW⟩ : ∃ W, W = wc.drew := ⟨_, rfl⟩; rw [← hW] at hHeld ⊢; (have HBW : Below wc.heap.size wc W := by rw [hW]; exact (b0 wc).drew); clear hW
   repeat' first
    | exact zA.nil
    | refine zB (fuel := 1) [17] (by decide +kernel) (by simp) ?_
    | refine zB (fuel := 0) [18] (by decide +kernel) (by simp) ?_
    | (refine zD [0, 1, 2, 3, 4, 5, 6, 7, 8, 9, 10, 11, 12, 13, 14, 15, 16] 2 (by decide +kernel) (fun _ _ _ _ _ h => h) (by assumption) ?_; (iterate 17 ((apply YA.take rfl (by rfl); case hy => rintro w ⟨s0, s1, s2, s3, s4, s5⟩; go_simp; try with_reducible rfl); try simp only [pD])); refine YA.nil ?_)
    | (refine zA.con 17 rfl (fun K hK => ?_) ?_; (go_simp; refine xN (fun X hX => ?_); (have hbk := zJJ HBW hX); (have rn := zJI HBW hX); (have hnw := HBW.size); (replace HBW := bt HBW hbk); clear hX hbk); (refine hK.out _ _ ?_ (fun hHeld => ?_); focus ((try dsimp only); (first | exact HZ3.out | exact ⟨cb HBW HZ3.out.1, cb HBW HZ3.out.2.1, cb HBW HZ3.out.2.2.1, cb HBW HZ3.out.2.2.2.1, cb HBW HZ3.out.2.2.2.2.1, cb HBW HZ3.out.2.2.2.2.2⟩))); try dsimp only at hHeld; clear hK K; try simp only [pD])
    | (refine zA.lst 18 rfl (by decide +kernel) (fun K hK => ?_) ?_; ((have qf := rn.frozen); (have ql := rn.lt); (have z0 := rn.cell 0); (have z1 := rn.cell 1); (simp only [pG] at z0 z1); go_simp; (have hBz := zKC HBW hnw (u0 := .int .i64 n) (u1 := .string s)); (replace rn := rn.set2 (u0 := .int .i64 n) (u1 := .string s)); refine xN (fun X hX => ?_); (replace HBW := Below.ren hX hBz); (replace rn := Rw.ren hX rn); clear hX hBz z0 z1 qf ql); refine hK.out _ _ ?_; clear hK K; try simp only [pD])
    | (refine zE (by decide +kernel) ?_)
   clear hHeld
   obtain ⟨nb, hnb⟩ : ∃ b, b = W.heap.size := ⟨_, rfl⟩
   rw [← hnb] at rn hnw ⊢
   obtain ⟨wv, hwv⟩ : ∃ wv, wv = X := ⟨_, rfl⟩
   rw [← hwv] at rn HBW ⊢
   clear hnb hwv
   have HS7 := zH (HS3.out.below HBW)
   have R47 := zH (R43.out.below HBW)
   have HC7 := zH (HC3.out.trans (zDE (q := q) HBW) (fun _ _ h => h))
   have hnq := HS3.out.new hnw
   have hb3 := HS3.out.B0
   have hbl3 := R43.out.lt
   have hn4 : nb ≠ bt4 := by omega
   have hnx : nb ≠ q.b.bx := fun e => hnq (.inl e)
   have hnA : nb ≠ q.b.bk := fun e => hnq (.inr (.inl e))
   have hnV : nb ≠ q.b.bv := fun e => hnq (.inr (.inr e))
   have h4A : bt4 ≠ q.b.bk := fun e => HNW.out (.inr (.inl e))
   have h4V : bt4 ≠ q.b.bv := fun e => HNW.out (.inr (.inr e))
   have q6 := HS7.out.bx.2.2.2.2.2.2.1
   have hAt := HS7.out.atA hkm
   have hfA := HS7.out.rA.frozen; have hlA := HS7.out.rA.lt
   have hwa : IntKind.i64.wrap ((st.A k : Int) + 1) = ((st.A k + 1 : Nat) : Int) := by rw [IntKind.wrap_i64]; omega
   have hwv : IntKind.i64.wrap ((V : Int) + 1) = ((V + 1 : Nat) : Int) := by rw [IntKind.wrap_i64]; omega
   have HS8 := zH (HS7.out.bumpA k)
   have R48 := zH (R47.out.other (p := ⟨q.b.bk, k, none⟩) h4A (.int .i64 ((st.A k + 1 : Nat) : Int)))
   have rn8 := rn.other (p := ⟨q.b.bk, k, none⟩) hnA (.int .i64 ((st.A k + 1 : Nat) : Int))
   have HC8 := zH (HC7.out.setCell (p := ⟨q.b.bk, k, none⟩) (.inr (.inr (.inl rfl))) (.int .i64 ((st.A k + 1 : Nat) : Int)))
   generalize st.A k = A at *
   clear rn HBW
   simp only [Int.natCast_add, Int.natCast_one] at HS8 R48 rn8 HC8 hwa hwv
   go_upto_region 7 with fail
   go_upto_region 8 with fail
   generalize wv.setCell ⟨q.b.bk, k, none⟩ (.int .i64 ((A : Int) + 1)) = w8 at HS8 R48 rn8 HC8 ⊢
   have HS8' := zH (HS8.out.bumpV k)
   dsimp only at HS8'
   rw [← HVV.out] at HS8'
   have hVt : w8.cell? ⟨q.b.bv, k, none⟩ = some (.int .i64 (V : Int)) := by rw [HVV.out]; exact HS8.out.atV hkm
   have q7 := HS8.out.bx.2.2.2.2.2.2.2.1
   have hfV := HS8.out.rV.frozen; have hlV := HS8.out.rV.lt
   have R49 := zH (R48.out.other (p := ⟨q.b.bv, k, none⟩) h4V (.int .i64 ((V + 1 : Nat) : Int)))
   have rn9 := rn8.other (p := ⟨q.b.bv, k, none⟩) hnV (.int .i64 ((V + 1 : Nat) : Int))
   have HC9 := zH (HC8.out.setCell (p := ⟨q.b.bv, k, none⟩) (.inr (.inr (.inr rfl))) (.int .i64 ((V + 1 : Nat) : Int)))
   simp only [Int.natCast_add, Int.natCast_one] at HS8' R49 rn9 HC9
   clear hfA hlA hAt hwa q6 rn8
   go_upto_region 9 with fail
   generalize w8.setCell ⟨q.b.bv, k, none⟩ (.int .i64 ((V : Int) + 1)) = w9 at HS8' R49 rn9 HC9 ⊢
   have r0 := R49.out.cell 0; have r1 := R49.out.cell 1; have r2 := R49.out.cell 2; have rf := R49.out.frozen; have rl := R49.out.lt
   simp only [pG] at r0 r1 r2
   have y0 := rn9.cell 0; have y1 := rn9.cell 1
   simp only [pG] at y0 y1
   have zr := R49.out.set3 (u0 := .int .i64 n) (u1 := .string s) (u2 := .slice none 0 0)
   have z0 := zr.cell 0; have z1 := zr.cell 1; have z2 := zr.cell 2
   simp only [pG] at z0 z1 z2
   have HQ := zH (RVQ.leaf3 (q := q) (n := n) (s := s) HSL.out HS.out HS8'.out HC9.out (b := bt4) HLE.out (u0 := .int .i64 n) (u1 := .string s) (u2 := .slice none 0 0))
   clear hfV hlV hVt hwv q7 rn9 zr
   go_wp2_with fail
   refine bodyPost_ret (v := .agg #[.int .i64 n, .string s, .slice none 0 0]) (by simp [results, Try.results50, go_sem, z0, z1, z2]) rfl ?_
   rw [HLX.out]
   exact HQ.out
end Go.Proofs.Ytjbkjfefjhbolaa
