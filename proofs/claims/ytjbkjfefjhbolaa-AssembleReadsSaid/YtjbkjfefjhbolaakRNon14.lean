import Derived.Test.YtjbkjfefjhbolaakLCols14
set_option linter.all false
open Nat renaming le_trans → zLP, add_assoc → zLW, succ_pos → zLX
open List renaming length_append → zLQ, length_singleton → zLR, getElem?_take → zLT, getElem?_eq_some_iff → zLU
open And renaming intro → zLS
open Array renaming length_toList → zLV
set_option maxHeartbeats 40000000
set_option maxRecDepth 100000
namespace Go.Proofs.Ytjbkjfefjhbolaa
open Go.RowKit Go.Shr
structure RT (B : Nat) (w : World) (bc m cap : Nat) (C : Nat → List Cel) (cur : Array Value) (aa : Nat → Option Addr) (cc : Nat → Nat) : Prop where
  row : Rw w bc cur 42
  size : cur.size = cap * 3
  le : m ≤ cap
  hds : Hds cur (m * 3) aa (nC C) cc
  ow : OW B w (m * 3) tyC szC aa (nC C) cc (xC C)
  lt : bc < B
section
variable {B : Nat} {w w' : World} {bc m cap : Nat} {C C' : Nat → List Cel} {cur : Array Value} {aa : Nat → Option Addr} {cc : Nat → Nat}
theorem RT.below (h : RT B w bc m cap C cur aa cc) (hb : Below w.heap.size w w') : RT B w' bc m cap C cur aa cc := ⟨h.row.below hb, h.size, h.le, h.hds, h.ow.below hb, h.lt⟩
theorem RT.cell0 (h : RT B w bc m cap C cur aa cc) {k : Nat} (hk : k < m) : w.cell? ⟨bc, k * 3, none⟩ = some (.slice (aa (k * 3)) (C k).length (cc (k * 3))) := by
  rw [h.row.cell, h.hds _ (by omega), (n0 C k).1]
theorem RT.cell1 (h : RT B w bc m cap C cur aa cc) {k : Nat} (hk : k < m) : w.cell? ⟨bc, k * 3 + 1, none⟩ = some (.slice (aa (k * 3 + 1)) (C k).length (cc (k * 3 + 1))) := by
  rw [h.row.cell, h.hds _ (by omega), (n1 C k).1]
theorem RT.cell2 (h : RT B w bc m cap C cur aa cc) {k : Nat} (hk : k < m) : w.cell? ⟨bc, k * 3 + 2, none⟩ = some (.slice (aa (k * 3 + 2)) (zV (C k)).length (cc (k * 3 + 2))) := by
  rw [h.row.cell, h.hds _ (by omega), (n2 C k).1]
theorem RT.congr (h : RT B w bc m cap C cur aa cc) (hC : ∀ k, k < m → C k = C' k) : RT B w bc m cap C' cur aa cc := by
  have h1 : ∀ j, j < m * 3 → nC C j = nC C' j := fun j hj => by unfold nC; rw [hC (j / 3) (by omega)]
  have h2 : ∀ j, j < m * 3 → xC C j = xC C' j := fun j hj => by unfold xC; rw [hC (j / 3) (by omega)]
  exact ⟨h.row, h.size, h.le, h.hds.congr (fun _ _ => rfl) h1 (fun _ _ => rfl), h.ow.congr (fun _ _ => rfl) h1 (fun _ _ => rfl) h2, h.lt⟩
theorem RT.fin {L : List Cel} {k : Nat} (hk : k < m) {a0 a1 a2 : Option Addr} {c0 c1 c2 : Nat} (hr : Rw w bc cur 42) (hs : cur.size = cap * 3) (hle : m ≤ cap) (hh : Hds cur (m * 3) aa (nC C) cc) (hl : bc < B)
    (ho : OW B w (m * 3) tyC szC (upd (upd (upd aa (k * 3) a0) (k * 3 + 1) a1) (k * 3 + 2) a2) (upd (upd (upd (nC C) (k * 3) L.length) (k * 3 + 1) L.length) (k * 3 + 2) (zV L).length) (upd (upd (upd cc (k * 3) c0) (k * 3 + 1) c1) (k * 3 + 2) c2) (upd (upd (upd (xC C) (k * 3) (zB3 L)) (k * 3 + 1) (zBO L)) (k * 3 + 2) (vcs (zV L)))) :
    RT B (((w.setCell ⟨bc, k * 3, none⟩ (.slice a0 L.length c0)).setCell ⟨bc, k * 3 + 1, none⟩ (.slice a1 L.length c1)).setCell ⟨bc, k * 3 + 2, none⟩ (.slice a2 (zV L).length c2)) bc m cap (upd C k L)
      (((cur.setIfInBounds (k * 3) (.slice a0 L.length c0)).setIfInBounds (k * 3 + 1) (.slice a1 L.length c1)).setIfInBounds (k * 3 + 2) (.slice a2 (zV L).length c2))
      (upd (upd (upd aa (k * 3) a0) (k * 3 + 1) a1) (k * 3 + 2) a2) (upd (upd (upd cc (k * 3) c0) (k * 3 + 1) c1) (k * 3 + 2) c2) := by
  refine ⟨((hr.set _ _).set _ _).set _ _, by simpa using hs, hle, ?_, ?_, hl⟩
  · have := ((hh.set (show k * 3 < m * 3 by omega) a0 L.length c0).set (show k * 3 + 1 < m * 3 by omega) a1 L.length c1).set (show k * 3 + 2 < m * 3 by omega) a2 (zV L).length c2
    exact this.congr (fun _ _ => rfl) (fun j _ => zD1 C k L j) (fun _ _ => rfl)
  · have hch : Chg (fun b => b = bc) w (((w.setCell ⟨bc, k * 3, none⟩ (.slice a0 L.length c0)).setCell ⟨bc, k * 3 + 1, none⟩ (.slice a1 L.length c1)).setCell ⟨bc, k * 3 + 2, none⟩ (.slice a2 (zV L).length c2)) := (((Chg.refl (fun b => b = bc) w).setCell (p := ⟨bc, k * 3, none⟩) (.inr rfl) _).setCell (p := ⟨bc, k * 3 + 1, none⟩) (.inr rfl) _).setCell (p := ⟨bc, k * 3 + 2, none⟩) (.inr rfl) _
    exact (ho.chg hch (fun g h1 _ h2 => by have h3 : g = bc := h2; omega)).congr (fun _ _ => rfl) (fun j _ => zD1 C k L j) (fun _ _ => rfl) (fun j _ => zJn C k L j)
theorem RT.clAt (h : RT B w bc m cap C cur aa cc) {k : Nat} (hk : k < m) : zBi (fun b => b < w.heap.size) w (clC (C k)) (aa (k * 3)) (cc (k * 3)) (aa (k * 3 + 1)) (cc (k * 3 + 1)) (aa (k * 3 + 2)) (cc (k * 3 + 2)) := by
  have h0 := (OW.own0 h.ow hk).sl.mono (ok' := fun b => b < w.heap.size) (fun b hb _ => hb) (by decide)
  have h1 := (OW.own1 h.ow hk).sl.mono (ok' := fun b => b < w.heap.size) (fun b hb _ => hb) (by decide)
  have h2 := (OW.own2 h.ow hk).sl.mono (ok' := fun b => b < w.heap.size) (fun b hb _ => hb) (by decide)
  refine ⟨?_, ?_, h2⟩
  · rw [zKA]; simpa [clC] using h0
  · rw [zKB]; simpa [clC] using h1
theorem RT.cols (h : RT B w bc m cap C cur aa cc) (hm : cap ≤ maxLen) : xE w (some ⟨bc, 0, none⟩) m cap (zG0 m C) (cur.toList.take (m * 3)) := by
  have hs := h.size; have hle := h.le
  refine ⟨⟨by rw [List.length_take, zLV]; omega, h.le, hm, .inr ⟨bc, 0, rfl, h.row.lt, fun j u hj => ?_⟩⟩, HdG.of (by rw [zAb, List.length_take, zLV]; omega) (fun k hk => ?_)⟩
  · rw [Nat.zero_add, h.row.cell]
    rw [zLT] at hj
    split at hj
    · simpa using hj
    · cases hj
  · rw [zAb] at hk
    have h0 := h.hds (k * 3) (by omega); have h1 := h.hds (k * 3 + 1) (by omega); have h2 := h.hds (k * 3 + 2) (by omega)
    rw [(n0 C k).1] at h0; rw [(n1 C k).1] at h1; rw [(n2 C k).1] at h2
    refine ⟨_, _, _, _, _, _, ?_, ?_, ?_, by rw [jV]; exact h.clAt hk⟩
    · rw [jV, zLT, if_pos (by omega)]; simpa [clC] using h0
    · rw [jV, zLT, if_pos (by omega)]; simpa [clC] using h1
    · rw [jV, zLT, if_pos (by omega)]; simpa [clC] using h2
end
def qO (l : List Fl) : List Int := (List.range l.length).map fun i => if (flN l i).kind = 0 then -1 else ((zG l i).length : Int)
def zBL (l : List Fl) : List Int := (List.range l.length).map fun i => (lvR l i : Int)
theorem qU (l : List Fl) : (qO l).length = l.length := by simp [qO]
theorem zAW (l : List Fl) : (zBL l).length = l.length := by simp [zBL]
theorem zCa (l : List Fl) (i : Nat) (h : i < (zBL l).length) : (zBL l)[i] = (lvR l i : Int) := by simp [zBL]
theorem leafs_pos {l : List Fl} : ∀ (n k : Nat) (h : k < (zG l n).length), (zG l (zG l n)[k]).length = k
  | 0, k, h => by simp [zG] at h
  | n + 1, k, h => by
    by_cases hk : (flN l n).kind = 0
    · have e := jC (l := l) (m := n) hk
      have h' : k < (zG l n).length := by rw [e] at h; exact h
      have := leafs_pos n k h'
      have e2 : (zG l (n + 1))[k] = (zG l n)[k] := by simp only [e]
      rw [e2]; exact this
    · have e := xQ (l := l) (m := n) hk
      by_cases hl : k < (zG l n).length
      · have := leafs_pos n k hl
        have e2 : (zG l (n + 1))[k] = (zG l n)[k] := by simp only [e]; rw [List.getElem_append_left hl]
        rw [e2]; exact this
      · have hk2 : k = (zG l n).length := by rw [e, zLQ, zLR] at h; omega
        have e2 : (zG l (n + 1))[k] = n := by simp only [e]; rw [List.getElem_append_right (by omega)]; simp
        rw [e2]; exact hk2.symm
structure WP where
  p : SP
  mc : Nat
  pa : Option Addr
  pc : Nat
  la : Option Addr
  lc : Nat
  ra : Option Addr
  rc : Nat
structure Wk (q : WP) (w : World) (G : Nat → List Cel) (aa : Nat → Option Addr) : Prop where
  row : Rw w q.p.bx #[.slice q.p.sa q.p.l.length q.p.sc, .slice q.pa q.p.l.length q.pc, .slice q.la q.p.l.length q.lc, .slice q.ra q.p.l.length q.rc, .slice (some ⟨q.p.bc, 0, none⟩) q.p.m q.mc] 71
  s : Sl q.p.ok w 4 q.p.sa q.p.l.length q.p.sc (fls q.p.l)
  par : Sl q.p.ok w 1 q.pa q.p.l.length q.pc (zQ (par q.p.l))
  leaf : Sl q.p.ok w 1 q.la q.p.l.length q.lc (zQ (qO q.p.l))
  rep : Sl q.p.ok w 1 q.ra q.p.l.length q.rc (zQ (zBL q.p.l))
  tab : ∃ cur cc, RT q.p.B w q.p.bc q.p.m q.mc G cur aa cc
  bds : q.p.bx < q.p.B ∧ q.p.bc < q.p.B ∧ q.p.bx ≠ q.p.bc ∧ q.p.B0 ≤ q.p.bx ∧ q.p.B0 ≤ q.p.bc ∧ q.p.B ≤ w.heap.size
section
variable {q : WP} {w w' : World} {G G' : Nat → List Cel} {aa : Nat → Option Addr}
theorem Wk.congr (h : Wk q w G aa) (hG : ∀ k, k < q.p.m → G k = G' k) : Wk q w G' aa := by
  obtain ⟨cur, cc, ht⟩ := h.tab
  exact ⟨h.row, h.s, h.par, h.leaf, h.rep, ⟨cur, cc, ht.congr hG⟩, h.bds⟩
theorem Wk.below (h : Wk q w G aa) (hb : Below w.heap.size w w') : Wk q w' G aa := by
  obtain ⟨cur, cc, ht⟩ := h.tab
  have hc := chF hb
  exact ⟨h.row.below hb, h.s.go hc (fun _ _ h => ⟨fun h => h, h⟩) (by decide), h.par.go hc (fun _ _ h => ⟨fun h => h, h⟩) (by decide), h.leaf.go hc (fun _ _ h => ⟨fun h => h, h⟩) (by decide), h.rep.go hc (fun _ _ h => ⟨fun h => h, h⟩) (by decide), ⟨cur, cc, ht.below hb⟩, by have := h.bds; have := hb.size; omega⟩
theorem Wk.tbs (h : Wk q w G aa) {b : Nat} (hb : q.p.tb aa b) : q.p.B ≤ b ∧ b < w.heap.size := by
  obtain ⟨cur, cc, ht⟩ := h.tab
  obtain ⟨j, hj, hg⟩ := hb
  have := ht.ow.lt j b hj hg
  omega
theorem Wk.okch (h : Wk q w G aa) {b : Nat} (hb : q.p.ok b) : ¬ q.p.ch aa b := fun h2 => by
  obtain ⟨h3, h4, h5⟩ := hb
  rcases h2 with h2 | h2 | h2
  · exact h4 h2
  · exact h5 h2
  · have := (h.tbs h2).1; omega
theorem Wk.low (h : Wk q w G aa) {b : Nat} (hb : b < q.p.B0) : ¬ q.p.ch aa b := fun h2 => by
  have := h.bds
  rcases h2 with h2 | h2 | h2
  · omega
  · omega
  · have := (h.tbs h2).1; omega
theorem Wk.new (h : Wk q w G aa) : ¬ q.p.ch aa w.heap.size := fun h2 => by
  have := h.bds
  rcases h2 with h2 | h2 | h2
  · omega
  · omega
  · have := (h.tbs h2).2; omega
end
def WkQ (q : WP) (G : Nat → List Cel) (aa : Nat → Option Addr) (w : World) (e : Ending) (w' : World) : Prop := e = .returned (.tuple #[]) ∧ ∃ aa', Wk q w' G aa' ∧ Stp q.p aa w aa' w'
theorem zF9 {q : WP} (hl : q.p.lfs = zG q.p.l q.p.l.length) {k : Nat} (hk : k < q.p.m) : (zQ (qO q.p.l))[q.p.lf k]? = some (.int .i64 (k : Int)) := by
  obtain ⟨h1, h2⟩ := zD3 hl hk
  have hk' : k < (zG q.p.l q.p.l.length).length := by rw [← hl]; exact hk
  have h3 := leafs_pos q.p.l.length k hk'
  have h4 : q.p.lf k = (zG q.p.l q.p.l.length)[k] := by unfold SP.lf; rw [hl, List.getD_eq_getElem?_getD, List.getElem?_eq_getElem hk']; rfl
  rw [← h4] at h3
  rw [zO _ _ (by rw [qU]; exact h1)]
  simp [qO, h2, h3]
theorem _root_.Go.Shr.OW.chg2 {B : Nat} {w w' : World} {N : Nat} {ty : Nat → TypeId} {sz : Nat → Nat} {aa : Nat → Option Addr} {n cc : Nat → Nat} {X : Nat → List Value} {S : Nat → Prop} (h : OW B w N ty sz aa n cc X) (hc : Chg S w w') (hS : ∀ j g, j < N → blk (aa j) g → ¬ S g) : OW B w' N ty sz aa n cc X :=
  ⟨fun j hj => (h.own j hj).chg hc (fun g hg => hS j g hj hg), fun j g hj hg => ⟨Nat.lt_of_lt_of_le (h.lt j g hj hg).1 hc.size, (h.lt j g hj hg).2⟩, h.dis⟩
theorem rw3 {w : World} {b : Nat} {x0 x1 x2 : Value} {t : TypeId} (h : Rw w b #[x0, x1, x2] t) (y0 y1 y2 : Value) : Rw (((w.setCell ⟨b, 0, none⟩ y0).setCell ⟨b, 1, none⟩ y1).setCell ⟨b, 2, none⟩ y2) b #[y0, y1, y2] t := by
  have := ((h.set 0 y0).set 1 y1).set 2 y2
  simpa using this
theorem rw2 {w : World} {b : Nat} {x0 x1 x2 : Value} {t : TypeId} (h : Rw w b #[x0, x1, x2] t) (y0 y1 : Value) : Rw ((w.setCell ⟨b, 0, none⟩ y0).setCell ⟨b, 1, none⟩ y1) b #[y0, y1, x2] t := by
  have := (h.set 0 y0).set 1 y1
  simpa using this
theorem xG {w : World} {b : Nat} {x0 x1 x2 : Value} {t : TypeId} (h : Rw w b #[x0, x1, x2] t) : w.cell? ⟨b, 0, none⟩ = some x0 ∧ w.cell? ⟨b, 1, none⟩ = some x1 ∧ w.cell? ⟨b, 2, none⟩ = some x2 := ⟨h.cell 0, h.cell 1, h.cell 2⟩
theorem chB {S : Nat → Prop} {w w' : World} (h : Below w.heap.size w w') : Chg S w w' := ⟨h.os, h.tape, h.output, h.size, fun k hk _ => h.block k hk⟩
theorem zDI {p : SP} {aa aa1 : Nat → Option Addr} {j : Nat} {a' : Option Addr} {w2 W : World} (h : ∀ b, p.tb aa1 b → p.tb aa b ∨ w2.heap.size ≤ b) (hj : j < p.m * 3) (hn : ∀ g, blk a' g → blk (aa1 j) g ∨ W.heap.size ≤ g) (hz : w2.heap.size ≤ W.heap.size) :
    ∀ b, p.tb (upd aa1 j a') b → p.tb aa b ∨ w2.heap.size ≤ b := wV (w := w2) h hj hn hz
theorem zLE {S : Nat → Prop} {a w : World} (h : Chg S a w) {b : Nat} (hb : a.heap.size ≤ b ∨ S b) (i j k : Nat) (y0 y1 y2 : Value) : Chg S a (((w.setCell ⟨b, i, none⟩ y0).setCell ⟨b, j, none⟩ y1).setCell ⟨b, k, none⟩ y2) :=
  ((h.setCell (p := ⟨b, i, none⟩) hb y0).setCell (p := ⟨b, j, none⟩) hb y1).setCell (p := ⟨b, k, none⟩) hb y2
def zLN (q : WP) (G : Nat → List Cel) (aa : Nat → Option Addr) (cur : Array Value) (cc : Nat → Nat) (k r d : Nat) (bl : Nat) (w w2 wd : World) : Prop :=
  ∃ a4 c4 a9 c9, OW q.p.B wd (q.p.m * 3) tyC szC (upd (upd aa (k * 3) a4) (k * 3 + 1) a9) (upd (upd (nC G) (k * 3) ((G k).length + 1)) (k * 3 + 1) ((G k).length + 1)) (upd (upd cc (k * 3) c4) (k * 3 + 1) c9) (upd (upd (xC G) (k * 3) (zB3 (G k) ++ [.int .i64 (r : Int)])) (k * 3 + 1) (zBO (G k) ++ [.int .i64 (d : Int)])) ∧
    Rw wd bl #[.slice a4 ((G k).length + 1) c4, .slice a9 ((G k).length + 1) c9, .slice (aa (k * 3 + 2)) (zV (G k)).length (cc (k * 3 + 2))] 42 ∧
    Rw wd q.p.bc cur 42 ∧ Chg (q.p.tb aa) w wd ∧ (∀ b, q.p.tb (upd (upd aa (k * 3) a4) (k * 3 + 1) a9) b → q.p.tb aa b ∨ w2.heap.size ≤ b) ∧ w2.heap.size ≤ wd.heap.size
def zLm (q : WP) (G : Nat → List Cel) (aa : Nat → Option Addr) (cur : Array Value) (cc : Nat → Nat) (k : Nat) (L : List Cel) (bl : Nat) (w w2 wd : World) : Prop :=
  ∃ a4 c4 a9 c9 a22 c22, OW q.p.B wd (q.p.m * 3) tyC szC (upd (upd (upd aa (k * 3) a4) (k * 3 + 1) a9) (k * 3 + 2) a22) (upd (upd (upd (nC G) (k * 3) L.length) (k * 3 + 1) L.length) (k * 3 + 2) (zV L).length) (upd (upd (upd cc (k * 3) c4) (k * 3 + 1) c9) (k * 3 + 2) c22) (upd (upd (upd (xC G) (k * 3) (zB3 L)) (k * 3 + 1) (zBO L)) (k * 3 + 2) (vcs (zV L))) ∧
    Rw wd bl #[.slice a4 L.length c4, .slice a9 L.length c9, .slice a22 (zV L).length c22] 42 ∧
    Rw wd q.p.bc cur 42 ∧ Chg (q.p.tb aa) w wd ∧ (∀ b, q.p.tb (upd (upd (upd aa (k * 3) a4) (k * 3 + 1) a9) (k * 3 + 2) a22) b → q.p.tb aa b ∨ w2.heap.size ≤ b) ∧ w2.heap.size ≤ wd.heap.size
theorem zHm (q : WP) (hl : q.p.lfs = zG q.p.l q.p.l.length) (hll : q.p.l.length ≤ 1000) (G : Nat → List Cel) (aa : Nat → Option Addr) (k : Nat) (hk : k < q.p.m) (hlen : (G k).length ≤ 1000000000000) (r d : Nat) (v : Vc) (has : Bool) (w : World) (h : Wk q w G aa) :
    Calls Try.prog 37 #[.pointer (some ⟨q.p.bx, 0, none⟩), .int .i64 (q.p.lf k : Int), .int .i64 (r : Int), .int .i64 (d : Int), .agg #[.int .i64 v.n, .string v.s], .bool has] w (WkQ q (upd G k (G k ++ [⟨r, d, if has = true then some v else none⟩])) aa w) := by
  obtain ⟨ii, hii, hz0i, hz1i, hz2i⟩ := info_parts jR
  obtain ⟨iv, hiv, hz0v, hz1v, hz2v⟩ := info_parts zCl
  obtain ⟨cur, cc, ht⟩ := h.tab
  have hi := (zD3 hl hk).1
  have hml : q.p.m ≤ q.p.l.length := by unfold SP.m; rw [hl]; exact yW
  obtain ⟨lb, lo, hla, hlok, hlc⟩ := h.leaf.pos (by omega)
  have g1 := hlc _ _ (zF9 hl hk)
  have q2 : w.cell? ⟨q.p.bx, 2, none⟩ = some (.slice q.la q.p.l.length q.lc) := h.row.cell 2
  rw [hla] at q2
  have q4 : w.cell? ⟨q.p.bx, 4, none⟩ = some (.slice (some ⟨q.p.bc, 0, none⟩) q.p.m q.mc) := h.row.cell 4
  have u0 := ht.cell0 hk; have u1 := ht.cell1 hk; have u2 := ht.cell2 hk
  have hbd := h.bds
  have hvl := zFn (G k)
  have hlv : ∀ j g, j < q.p.m * 3 → blk (aa j) g → g < w.heap.size := fun j g hj hg => (ht.ow.lt j g hj hg).1
  have HNL : Hid (¬ q.p.ch aa lb) := zH (h.okch hlok)
  have H := zH h; have HT := zH ht; have HLV := zH hlv; have HLF := zH hl
  have hi0 : (q.p.lf k : Int) < (q.p.l.length : Int) := by omega
  have hk0 : (k : Int) < (q.p.m : Int) := by omega
  clear h ht hlc hlv hl
  go_enter Try.func37, Try.ntmps37
  go_upto_region 1 with fail
  refine zAC (fun w1 hw1 => ?_)
  have hb1 : Below w.heap.size w w1 := by rw [hw1]; exact ba (b0 w) _
  have rv : Rw w1 w.heap.size #[.int .i64 v.n, .string v.s] 44 := by rw [hw1]; exact Rw.new w _ _
  clear hw1
  obtain ⟨bv, hbv⟩ : ∃ b, b = w.heap.size := ⟨_, rfl⟩
  rw [← hbv] at rv ⊢
  have HU := zH (zLS (cb hb1 q2) (zLS (cb hb1 q4) (zLS (cb hb1 g1) (zLS (cb hb1 u0) (zLS (cb hb1 u1) (cb hb1 u2))))))
  have RV := zH rv; have HB1 := zH hb1; have HBV := zH hbv
  clear q2 q4 g1 u0 u1 u2 rv hb1 hbv
  refine zF (fun w' => w'.cell? ⟨q.p.bx, 2, none⟩ = some (.slice (some ⟨lb, lo, none⟩) q.p.l.length q.lc) ∧ w'.cell? ⟨q.p.bx, 4, none⟩ = some (.slice (some ⟨q.p.bc, 0, none⟩) q.p.m q.mc) ∧ w'.cell? ⟨lb, lo + q.p.lf k, none⟩ = some (.int .i64 (k : Int)) ∧ w'.cell? ⟨q.p.bc, k * 3, none⟩ = some (.slice (aa (k * 3)) (G k).length (cc (k * 3))) ∧ w'.cell? ⟨q.p.bc, k * 3 + 1, none⟩ = some (.slice (aa (k * 3 + 1)) (G k).length (cc (k * 3 + 1))) ∧ w'.cell? ⟨q.p.bc, k * 3 + 2, none⟩ = some (.slice (aa (k * 3 + 2)) (zV (G k)).length (cc (k * 3 + 2)))) [14] (by kernel_rfl) ?g24rgS (fun hHeld => ?g24rgR)
  case g24rgS => (try dsimp only); (first | exact HU.out | exact ⟨cb hb13 hHeld.1, cb hb13 hHeld.2.1, cb hb13 hHeld.2.2.1, cb hb13 hHeld.2.2.2.1, cb hb13 hHeld.2.2.2.2.1, cb hb13 hHeld.2.2.2.2.2⟩)
  try dsimp only at hHeld
  refine zD [0, 1, 2, 3, 4, 5, 6, 7, 8, 9, 10, 11, 12] 2 (by kernel_rfl) (fun _ _ _ _ _ h => h) (by assumption) ?_
  iterate 13 ((apply YA.take rfl (by rfl); case hy => rintro w ⟨s0, s1, s2, s3, s4, s5⟩; go_simp; try with_reducible rfl); try simp only [pD])
  refine YA.nil ?_
  refine zB [13] (by kernel_rfl) (by simp) ?_
  refine zA.con 13 rfl (fun K hK => ?g24ro1) ?g24rm1
  case g24rm1 => exact zA.nil
  go_simp; refine xN (fun X hX => ?_); (have hb13 : Below w1.drew.heap.size w1.drew X := by rw [hX]; exact ba (b0 w1.drew) _); (have rl : Rw X w1.heap.size #[.slice none 0 0, .slice none 0 0, .slice none 0 0] 42 := by rw [hX]; exact Rw.new w1.drew _ _); clear hX
  refine hK.out _ _ ?g24rs1 (fun hHeld => ?g24rt1)
  case g24rs1 => (try dsimp only); (first | exact HU.out | exact ⟨cb hb13 hHeld.1, cb hb13 hHeld.2.1, cb hb13 hHeld.2.2.1, cb hb13 hHeld.2.2.2.1, cb hb13 hHeld.2.2.2.2.1, cb hb13 hHeld.2.2.2.2.2⟩)
  try dsimp only at hHeld
  clear hK K
  try simp only [pD]
  refine zB [14] (by kernel_rfl) (by simp) ?_
  refine zA.lst 14 rfl (by kernel_rfl) (fun K hK => ?g24ro2) ?g24rm2
  case g24rm2 => exact zA.nil
  (have qf := rl.frozen); (have ql := rl.lt); (have y0 := rl.cell 0); (have y1 := rl.cell 1); (have y2 := rl.cell 2); (simp only [pG] at y0 y1 y2); go_simp; clear y0 y1 y2 qf ql
  refine hK.out _ _ ?_
  clear hK K
  try simp only [pD]
  refine zE (by kernel_rfl) ?_
  clear hHeld
  obtain ⟨bl, hbl⟩ : ∃ b, b = w1.heap.size := ⟨_, rfl⟩
  rw [← hbl] at rl ⊢
  have hsz13 := hb13.size
  have HBL : Hid (w.heap.size ≤ bl ∧ bv < bl ∧ bl < X.heap.size) := zH ⟨by have := HB1.out.size; omega, by have := RV.out.lt; omega, rl.lt⟩
  have rl2 := rw3 rl (.slice (aa (k * 3)) (G k).length (cc (k * 3))) (.slice (aa (k * 3 + 1)) (G k).length (cc (k * 3 + 1))) (.slice (aa (k * 3 + 2)) (zV (G k)).length (cc (k * 3 + 2)))
  have hbX : Below w.heap.size w X := bt HB1.out.drew hb13
  have hc2 := zLE (Chg.refl (fun b => b = bl) X) (b := bl) (.inr rfl) 0 1 2 (.slice (aa (k * 3)) (G k).length (cc (k * 3))) (.slice (aa (k * 3 + 1)) (G k).length (cc (k * 3 + 1))) (.slice (aa (k * 3 + 2)) (zV (G k)).length (cc (k * 3 + 2)))
  have hb2 := Chg.bt hbX hc2 (fun i hi he => by have := HBL.out; have he' : i = bl := he; omega)
  have rv2 := (RV.out.drew.below hb13).chg hc2 (fun he => by have := HBL.out; have he' : bv = bl := he; omega)
  have hsz2 := hc2.size
  go_upto_region 2 with fail
  refine zAC (fun w2 hw2 => ?_)
  rw [← hw2] at rl2 hb2 rv2 hsz2
  clear hw2 hc2 rl hbX hb13 hbl
  have HBL2 : Hid (w.heap.size ≤ bl ∧ bv < bl ∧ bl < w2.heap.size ∧ w.heap.size ≤ bv) := zH ⟨HBL.out.1, HBL.out.2.1, by have := HBL.out; omega, by have := HBV.out; omega⟩
  clear HBL RV hsz13 hsz2 HBV HU HB1
  have HB2 := zH hb2; have RL2 := zH rl2; have RV2 := zH rv2
  have H2 := zH (H.out.below hb2); have HT2 := zH (HT.out.below hb2)
  clear hb2 rl2 rv2
  have HNB : Hid (∀ b, q.p.tb aa b → b < w.heap.size) := zH (fun b ⟨j, hj, hg⟩ => HLV.out j b hj hg)
  have hl2 := xG RL2.out
  go_cut [12] from 26 to 37 (fun v12 wd => v12 = .pointer (some ⟨bl, 0, none⟩) ∧ Hid (zLN q G aa cur cc k r d bl w w2 wd) ∧ Hid (Rw wd bv #[.int .i64 v.n, .string v.s] 44))
  case first =>
    refine zF (fun w' => w'.cell? ⟨bl, 0, none⟩ = some (.slice (aa (k * 3)) (G k).length (cc (k * 3))) ∧ w'.cell? ⟨bl, 1, none⟩ = some (.slice (aa (k * 3 + 1)) (G k).length (cc (k * 3 + 1)))) [11, 12, 13] (by decide +kernel) ?g25rgS (fun hHeld => ?g25rgR)
    case g25rgS => (try dsimp only); (first | exact ⟨hl2.1, hl2.2.1⟩ | exact ⟨(xG rl).1, (xG rl).2.1⟩)
    try dsimp only at hHeld
    obtain ⟨W, hW⟩ : ∃ W, W = w2.drew := ⟨_, rfl⟩; rw [← hW] at hHeld ⊢; (have row := Rw.ren hW HT2.out.row.drew); (have how : OW q.p.B W (q.p.m * 3) tyC szC aa (nC G) cc (xC G) := by rw [hW]; exact HT2.out.ow.below (b0 w2).drew); (have rl := Rw.ren hW RL2.out.drew); (have rv := Rw.ren hW RV2.out.drew); (have hch : Chg (q.p.tb aa) w W := by rw [hW]; exact (chB HB2.out).drew); (have hBW : q.p.B ≤ W.heap.size := by rw [hW]; exact H2.out.bds.2.2.2.2.2); (have hzW : w2.heap.size ≤ W.heap.size := by rw [hW]; exact Nat.le_refl _); (have htb : ∀ b, q.p.tb aa b → q.p.tb aa b ∨ w2.heap.size ≤ b := fun b hb => .inl hb); clear hW
    repeat' first
      | exact zA.nil
      | refine zB (fuel := 7) [3, 8] (by decide +kernel) (by simp) ?_
      | refine zB (fuel := 6) [4, 8] (by decide +kernel) (by simp) ?_
      | refine zB (fuel := 6) [3] (by decide +kernel) (by simp) ?_
      | refine zB (fuel := 5) [4] (by decide +kernel) (by simp) ?_
      | refine zB (fuel := 4) [8] (by decide +kernel) (by simp) ?_
      | refine zB (fuel := 3) [9] (by decide +kernel) (by simp) ?_
      | refine zB (fuel := 2) [11] (by decide +kernel) (by simp) ?_
      | refine zB (fuel := 1) [12] (by decide +kernel) (by simp) ?_
      | refine zB (fuel := 0) [13] (by decide +kernel) (by simp) ?_
      | (refine zD [0, 1, 2, 5, 6, 7] 8 (by decide +kernel) (fun _ _ _ _ _ h => h) (by assumption) ?_; (iterate 6 ((apply YA.take rfl (by rfl); case hy => rintro w ⟨s0, s1⟩; go_simp; try with_reducible rfl); try simp only [pD])); refine YA.nil ?_)
      | (refine zD [10] 5 (by decide +kernel) (fun _ _ _ _ _ h => h) (by assumption) ?_; (iterate 1 ((apply YA.take rfl (by rfl); case hy => rintro w ⟨s0, s1⟩; go_simp; try with_reducible rfl); try simp only [pD])); refine YA.nil ?_)
      | (refine zD [10] 4 (by decide +kernel) (fun _ _ _ _ _ h => h) (by assumption) ?_; (iterate 1 ((apply YA.take rfl (by rfl); case hy => rintro w ⟨s0, s1⟩; go_simp; try with_reducible rfl); try simp only [pD])); refine YA.nil ?_)
      | (refine zA.con 3 rfl (fun K hK => ?_) ?_; (go_simp; refine xN (fun X hX => ?_); (have hb := OW.nb how hX); (have rn3 := OW.nr how hX); (replace row := row.below hb); (replace rl := rl.below hb); (replace rv := rv.below hb); (replace hch := hch.trans (chF hb) (fun i hi h => h.elim)); (first | ((replace rn8 := rn8.below hb)) | (skip)); (replace how := how.below hb); (replace hBW := zLP hBW hb.size); (replace hzW := zLP hzW hb.size); clear hb hX); (refine hK.out _ _ ?_ (fun hHeld => ?_); focus ((try dsimp only); (first | exact ⟨hl2.1, hl2.2.1⟩ | exact ⟨(xG rl).1, (xG rl).2.1⟩))); try dsimp only at hHeld; clear hK K; try simp only [pD])
      | (refine zA.con 8 rfl (fun K hK => ?_) ?_; (go_simp; refine xN (fun X hX => ?_); (have hb := OW.nb how hX); (have rn8 := OW.nr how hX); (have hl8 := fun j g (hj : j < q.p.m * 3) hg => (how.lt j g hj hg).1); (replace row := row.below hb); (replace rl := rl.below hb); (replace rv := rv.below hb); (replace hch := hch.trans (chF hb) (fun i hi h => h.elim)); (try replace rn3 := rn3.below hb); (replace how := how.below hb); (replace hBW := zLP hBW hb.size); (replace hzW := zLP hzW hb.size); clear hb hX); (refine hK.out _ _ ?_ (fun hHeld => ?_); focus ((try dsimp only); (first | exact ⟨hl2.1, hl2.2.1⟩ | exact ⟨(xG rl).1, (xG rl).2.1⟩))); try dsimp only at hHeld; clear hK K; try simp only [pD])
      | (refine zA.con 4 rfl (fun K hK => ?_) ?_; ((refine zN (B := q.p.B) rfl _ _ _ _ rfl ii (.int .i64 0) 8 Try.underlying22 hii hz0i hz1i hz2i rfl rfl (OW.own0 how hk) _ rfl 1 _ (yP (P := Try.prog) (tx := 22) Try.underlying22 rn3 1 1 rfl (by simp [Value.oneCell'])) (by simp only [maxLen]; omega) (by omega) hBW ?_; intro a4 cap4 W4 ho4 hc4 hn4); (first | ((replace rn8 := rn8.chg hc4 (fun h => Nat.lt_irrefl _ (hl8 _ _ (by omega) h.1)))) | (skip)); (replace row := row.chg hc4 (fun h => by have := h.2.1; omega)); (replace rl := rl.chg hc4 (fun h => by have := HLV.out _ _ (by omega) h.1; have := HBL2.out; omega)); (replace rv := rv.chg hc4 (fun h => by have := HLV.out _ _ (by omega) h.1; have := HBL2.out; omega)); (replace htb := zDI htb (j := k * 3) (by omega) hn4 hzW); (replace hch := hch.trans hc4 (fun i hi h => ⟨_, by omega, h.1⟩)); (replace hBW := zLP hBW hc4.size); (replace hzW := zLP hzW hc4.size); (replace how := OW.push0 how hk (zLX _) ho4 hc4 hn4); clear ho4 hc4 hn4 rn3); (refine hK.out _ _ ?_ (fun hHeld => ?_); focus ((try dsimp only); (first | exact ⟨hl2.1, hl2.2.1⟩ | exact ⟨(xG rl).1, (xG rl).2.1⟩))); try dsimp only at hHeld; clear hK K; try simp only [pD])
      | (refine zA.con 9 rfl (fun K hK => ?_) ?_; ((refine zN (B := q.p.B) rfl _ _ _ _ rfl ii (.int .i64 0) 8 Try.underlying22 hii hz0i hz1i hz2i rfl rfl (OW.own1' how hk) _ rfl 1 _ (yP (P := Try.prog) (tx := 22) Try.underlying22 rn8 1 1 rfl (by simp [Value.oneCell'])) (by simp only [maxLen]; omega) (by omega) hBW ?_; intro a9 cap9 W9 ho9 hc9 hn9); (replace row := row.chg hc9 (fun h => by have := h.2.1; omega)); (replace rl := rl.chg hc9 (fun h => by have := HLV.out _ _ (by omega) h.1; have := HBL2.out; omega)); (replace rv := rv.chg hc9 (fun h => by have := HLV.out _ _ (by omega) h.1; have := HBL2.out; omega)); (replace htb := zDI htb (j := k * 3 + 1) (by omega) (by rw [zL _ _ (by omega)]; exact hn9) hzW); (replace hch := hch.trans hc9 (fun i hi h => ⟨_, by omega, h.1⟩)); (replace hBW := zLP hBW hc9.size); (replace hzW := zLP hzW hc9.size); (replace how := OW.push1 how hk (zLX _) ho9 hc9 hn9); clear ho9 hc9 hn9 rn8); (refine hK.out _ _ ?_ (fun hHeld => ?_); focus ((try dsimp only); (first | exact ⟨hl2.1, hl2.2.1⟩ | exact ⟨(xG rl).1, (xG rl).2.1⟩))); try dsimp only at hHeld; clear hK K; try simp only [pD])
      | (refine zA.lst 11 rfl (by decide +kernel) (fun K hK => ?_) ?_; ((obtain ⟨z0, z1⟩ := hHeld); (have qf := rl.frozen); (have ql := rl.lt); go_simp); refine hK.out _ _ ?_; clear hK K; try simp only [pD])
      | (refine zA.lst 12 rfl (by decide +kernel) (fun K hK => ?_) ?_; (go_simp); refine hK.out _ _ ?_; clear hK K; try simp only [pD])
      | (refine zA.lst 13 rfl (by decide +kernel) (fun K hK => ?_) ?_; (go_simp); refine hK.out _ _ ?_; clear hK K; try simp only [pD])
      | (refine zE (by decide +kernel) ?_
         have hs2 := rw2 rl (.slice a4 ((G k).length + 1) cap4) (.slice a9 ((G k).length + 1) cap9)
         have hcl := ((Chg.refl (fun b => b = bl) W9).setCell (p := ⟨bl, 0, none⟩) (.inr rfl) (.slice a4 ((G k).length + 1) cap4)).setCell (p := ⟨bl, 1, none⟩) (.inr rfl) (.slice a9 ((G k).length + 1) cap9)
         have hch2 := (hch.setCell (p := ⟨bl, 0, none⟩) (.inl HBL2.out.1) (.slice a4 ((G k).length + 1) cap4)).setCell (p := ⟨bl, 1, none⟩) (.inl HBL2.out.1) (.slice a9 ((G k).length + 1) cap9)
         have how2 := how.chg2 hcl (fun j g hj hg he => by have he' : g = bl := he; have h3 := HBL2.out; rcases htb g ⟨j, hj, hg⟩ with h1 | h1; have := HNB.out _ h1; omega; omega)
         have row2 := row.chg hcl (fun he => by have he' : q.p.bc = bl := he; have := HBL2.out; omega)
         have rv2 := rv.chg hcl (fun he => by have he' : bv = bl := he; have := HBL2.out; omega)
         have hz2 := zLP hzW hcl.size
         clear row rl rv how hch qf ql z0 z1
         go_wp2_with fail
         go_meet
         case rel => exact ⟨rfl, zH ⟨a4, cap4, a9, cap9, how2, hs2, row2, hch2, htb, hz2⟩, zH rv2⟩)
  case rest =>
    obtain ⟨rfl, HM, RV3⟩ := hcut
    clear hl2 RL2 RV2
    go_upto_if 38 with fail
    go_cut [12] from 38 to 44 (fun v12 wd => v12 = .pointer (some ⟨bl, 0, none⟩) ∧ Hid (zLm q G aa cur cc k (G k ++ [⟨r, d, if has = true then some v else none⟩]) bl w w2 wd))
    case first =>
      obtain ⟨a4, c4, a9, c9, how, rl, row, hch, htb, hzW⟩ := HM.out
      cases has with
      | false =>
        have hE : zLm q G aa cur cc k (G k ++ [⟨r, d, none⟩]) bl w w2 wc := by
          refine ⟨a4, c4, a9, c9, aa (k * 3 + 2), cc (k * 3 + 2), ?_, ?_, row, hch, ?_, hzW⟩
          · have := OW.same2 how
            simpa only [zAP, zAQ, zEU, zLQ, zLR] using this
          · simpa only [zEU, zLQ, zLR] using rl
          · intro b hb
            refine htb b ?_
            obtain ⟨j, hj, hg⟩ := hb
            refine ⟨j, hj, ?_⟩
            by_cases he : j = k * 3 + 2
            · subst he; rw [zU] at hg; rw [zL _ _ (by omega), zL _ _ (by omega)]; exact hg
            · rw [zL _ _ he] at hg; exact hg
        have HE := zH hE
        clear how rl row hch htb hE
        go_wp2_with fail
        go_meet
        case rel => exact ⟨rfl, HE⟩
      | true =>
        have y2 : wc.cell? ⟨bl, 2, none⟩ = some (.slice (aa (k * 3 + 2)) (zV (G k)).length (cc (k * 3 + 2))) := rl.cell 2
        have v0 : wc.cell? ⟨bv, 0, none⟩ = some (.int .i64 v.n) := RV3.out.cell 0
        have v1 : wc.cell? ⟨bv, 1, none⟩ = some (.string v.s) := RV3.out.cell 1
        have hBW : q.p.B ≤ wc.heap.size := zLP H2.out.bds.2.2.2.2.2 hzW
        have HOW := zH how; have HRL := zH rl; have HROW := zH row; have HCH := zH hch; have HTB := zH htb
        have HO2 := zH (OW.own2' how hk)
        clear how rl row hch htb
        have tok1 : True := trivial
        go_wp2_with (first
          | (at_builtin; have _t := tok1; clear tok1; clear _t; refine zI (B := q.p.B) rfl _ _ _ _ rfl iv (.agg #[.int .i64 0, .string ByteArray.empty]) 24 Try.underlying40 hiv hz0v hz1v hz2v rfl rfl (HO2.out.alloc _) _ rfl _ _ (zP (e' := 44) Try.underlying40 wc #[.int .i64 v.n, .string v.s] 44 1 2 rfl (by simp [Value.oneCell'])) (by simp only [maxLen]; omega) (by omega) (by first | omega | (simp; omega) | simp) ?_; intro a22 c22 w22 ho22 hc22 hn22); (have rl22 := (HRL.out.alloc (.cells #[.int .i64 v.n, .string v.s] 44)).chg hc22 (fun h => by have := HLV.out _ _ (by omega) h.1; have := HBL2.out; omega)); (have z2 := rl22.cell 2); (have qf := rl22.frozen); (have ql := rl22.lt); (simp only [pG] at z2)
          | fail)
        have hbA : Below wc.heap.size wc (wc.alloc (.cells #[.int .i64 v.n, .string v.s] 44)) := ba (b0 wc) _
        have how22 := OW.push2 (HOW.out.below hbA) hk (zLX _) ho22 hc22 hn22
        have htb22 := zDI HTB.out (j := k * 3 + 2) (W := wc.alloc (.cells #[.int .i64 v.n, .string v.s] 44)) (by omega) (by rw [zL _ _ (by omega), zL _ _ (by omega)]; exact hn22) (zLP hzW hbA.size)
        have hch22 := (HCH.out.trans (chF hbA) (fun i hi h => h.elim)).trans hc22 (fun i hi h => ⟨_, by omega, h.1⟩)
        have row22 := (HROW.out.below hbA).chg hc22 (fun h => by have := h.2.1; omega)
        have hcl := (Chg.refl (fun b => b = bl) w22).setCell (p := ⟨bl, 2, none⟩) (.inr rfl) (.slice a22 ((zV (G k)).length + 1) c22)
        have how3 := how22.chg2 hcl (fun j g hj hg he => by have he' : g = bl := he; have h3 := HBL2.out; rcases htb22 g ⟨j, hj, hg⟩ with h1 | h1; have := HNB.out _ h1; omega; omega)
        have row3 := row22.chg hcl (fun he => by have he' : q.p.bc = bl := he; have := HBL2.out; omega)
        have hch3 := hch22.setCell (p := ⟨bl, 2, none⟩) (.inl HBL2.out.1) (.slice a22 ((zV (G k)).length + 1) c22)
        have rl3 := rl22.set 2 (.slice a22 ((zV (G k)).length + 1) c22)
        have hz3 := zLP (zLP (zLP hzW hbA.size) hc22.size) hcl.size
        have hE : zLm q G aa cur cc k (G k ++ [⟨r, d, some v⟩]) bl w w2 (w22.setCell ⟨bl, 2, none⟩ (.slice a22 ((zV (G k)).length + 1) c22)) := by
          refine ⟨a4, c4, a9, c9, a22, c22, ?_, ?_, row3, hch3, htb22, hz3⟩
          · simpa only [zAP, zAQ, zET, zFL, zLQ, zLR] using how3
          · simpa [zET] using rl3
        have HE := zH hE
        clear ho22 hc22 hn22 rl22 how22 htb22 hch22 row22 hcl how3 row3 hch3 rl3 hE qf ql z2 HOW HRL HROW HCH HTB HO2 y2 v0 v1
        go_meet
        case rel => exact ⟨rfl, HE⟩
    case rest =>
      obtain ⟨rfl, HE⟩ := hcut
      obtain ⟨a4, c4, a9, c9, a22, c22, how, rl, row, hch, htb, hzW⟩ := HE.out
      have hntb : ∀ b, b < q.p.B → ¬ q.p.tb aa b := fun b hb h => by have := (H.out.tbs h).1; omega
      have hrow0 := H.out.row
      have r2 : w.cell? ⟨q.p.bx, 2, none⟩ = some (.slice q.la q.p.l.length q.lc) := hrow0.cell 2
      have r4 : w.cell? ⟨q.p.bx, 4, none⟩ = some (.slice (some ⟨q.p.bc, 0, none⟩) q.p.m q.mc) := hrow0.cell 4
      rw [hla] at r2
      have e2 := hch.keep r2 (hntb _ hbd.1)
      have e4 := hch.keep r4 (hntb _ hbd.1)
      obtain ⟨lb', lo', hla', hlok', hlc'⟩ := H.out.leaf.pos (by omega)
      rw [hla] at hla'
      obtain ⟨rfl, rfl⟩ : lb = lb' ∧ lo = lo' := by simpa using hla'
      have eL := hch.keep (hlc' _ _ (zF9 HLF.out hk)) (hntb _ hlok.1)
      have hH := HT.out.hds
      have y0 := (row.cell (k * 3)).trans ((hH (k * 3) (by omega)).trans (by rw [(n0 _ k).1]))
      have y1 := (row.cell (k * 3 + 1)).trans ((hH (k * 3 + 1) (by omega)).trans (by rw [(n1 _ k).1]))
      have y2 := (row.cell (k * 3 + 2)).trans ((hH (k * 3 + 2) (by omega)).trans (by rw [(n2 _ k).1]))
      have z := xG rl
      have HZ := zH (zLS e2 (zLS e4 (zLS eL z)))
      have HY := zH (zLS y0 (zLS y1 y2))
      have hLl : (G k ++ [(⟨r, d, if has = true then some v else none⟩ : Cel)]).length = (G k).length + 1 := by simp
      have HOW := zH how; have HRW := zH row; have HCH := zH hch; have HTB := zH htb
      generalize hLL : G k ++ [(⟨r, d, if has = true then some v else none⟩ : Cel)] = L at *
      clear hLl e2 e4 eL y0 y1 y2 z how rl row hch htb hla' hlc' r2 r4 hrow0 HM RV3 hH
      go_upto_region 5 with fail
      refine zF (fun w' => w'.cell? ⟨q.p.bx, 2, none⟩ = some (.slice (some ⟨lb, lo, none⟩) q.p.l.length q.lc) ∧ w'.cell? ⟨q.p.bx, 4, none⟩ = some (.slice (some ⟨q.p.bc, 0, none⟩) q.p.m q.mc) ∧ w'.cell? ⟨lb, lo + q.p.lf k, none⟩ = some (.int .i64 (k : Int)) ∧ w'.cell? ⟨bl, 0, none⟩ = some (.slice a4 L.length c4) ∧ w'.cell? ⟨bl, 1, none⟩ = some (.slice a9 L.length c9) ∧ w'.cell? ⟨bl, 2, none⟩ = some (.slice a22 (zV L).length c22)) [13] (by kernel_rfl) ?g26rgS (fun hHeld => ?g26rgR)
      case g26rgS => (try dsimp only); (exact HZ.out)
      try dsimp only at hHeld
      refine zD [0, 1, 2, 3, 4, 5, 6, 7, 8, 9, 10, 11, 12] 1 (by kernel_rfl) (fun _ _ _ _ _ h => h) (by assumption) ?_
      iterate 13 ((apply YA.take rfl (by rfl); case hy => rintro w ⟨s0, s1, s2, s3, s4, s5⟩; go_simp; try with_reducible rfl); try simp only [pD])
      refine YA.nil ?_
      refine zB [13] (by kernel_rfl) (by simp) ?_
      refine zA.lst 13 rfl (by kernel_rfl) (fun K hK => ?g26ro1) ?g26rm1
      case g26rm1 => exact zA.nil
      (have qf := HRW.out.drew.frozen); (have ql := HRW.out.drew.lt); (obtain ⟨y0, y1, y2⟩ := HY.out); (have d0 := cb (b0 wc).drew y0); (have d1 := cb (b0 wc).drew y1); (have d2 := cb (b0 wc).drew y2); (have qf2 := HRW.out.frozen); go_simp; clear y0 y1 y2 d0 d1 d2 qf qf2 ql
      refine hK.out _ _ ?_
      clear hK K
      try simp only [pD]
      refine zE (by kernel_rfl) ?_
      clear hHeld
      have hfin := RT.fin (L := L) hk HRW.out.drew HT.out.size HT.out.le HT.out.hds HT.out.lt (HOW.out.below (b0 wc).drew)
      have hch2 := zLE (S := q.p.ch aa) ((HCH.out.mono (fun i _ h => .inr (.inr h))).drew) (b := q.p.bc) (.inr (.inr (.inl rfl))) (k * 3) (k * 3 + 1) (k * 3 + 2) (.slice a4 L.length c4) (.slice a9 L.length c9) (.slice a22 (zV L).length c22)
      have rx := H.out.row.chg HCH.out.drew (hntb _ hbd.1)
      have hne : q.p.bx ≠ q.p.bc := hbd.2.2.1
      have rx2 := ((rx.other (p := ⟨q.p.bc, k * 3, none⟩) hne (.slice a4 L.length c4)).other (p := ⟨q.p.bc, k * 3 + 1, none⟩) hne (.slice a9 L.length c9)).other (p := ⟨q.p.bc, k * 3 + 2, none⟩) hne (.slice a22 (zV L).length c22)
      have hz := hch2.size
      go_wp2_with fail
      refine bodyPost_end (v := .tuple #[]) (by simp [results, Try.results37, go_sem]) rfl ?_
      have hok : ∀ b, b < w.heap.size → q.p.ok b → ¬ q.p.ch aa b ∧ q.p.ok b := fun b _ hb => ⟨H.out.okch hb, hb⟩
      exact ⟨rfl, _, ⟨rx2, H.out.s.go hch2 hok (by decide), H.out.par.go hch2 hok (by decide), H.out.leaf.go hch2 hok (by decide), H.out.rep.go hch2 hok (by decide), ⟨_, _, hfin⟩, ⟨hbd.1, hbd.2.1, hbd.2.2.1, hbd.2.2.2.1, hbd.2.2.2.2.1, zLP hbd.2.2.2.2.2 hz⟩⟩, hch2, fun b hb => by
        rcases HTB.out b hb with h1 | h1
        · exact .inl h1
        · exact .inr (zLP (zLP (zLP HBL2.out.1 (Nat.le_of_lt HBL2.out.2.2.1)) (Nat.le_refl _)) h1)⟩
theorem zEv (lf r d : Nat) : ∀ (done todo : List Sh) (o : Nat), (wF lf o r d done).length ≤ (wF lf o r d (done ++ todo)).length
  | [], todo, o => by simp [wF]
  | s :: q, todo, o => by
    have := zEv lf r d q todo (o + s.size)
    simp only [List.cons_append, wF, zLQ]; omega
def zKI (q : WP) (s : Sh) : Prop := ∀ (i r d : Nat) (w : World) (G : Nat → List Cel) (aa : Nat → Option Addr), Ix q.p.l (fun v => zK (par q.p.l) v) i s → i + s.size ≤ q.p.l.length → zR s → Wk q w G aa →
  (∀ k, k < q.p.m → (G k).length + (xK (q.p.lf k) i s r d).length ≤ 1000000000000) →
  Calls Try.prog 38 #[.pointer (some ⟨q.p.bx, 0, none⟩), .int .i64 (i : Int), .int .i64 (r : Int), .int .i64 (d : Int)] w (WkQ q (yH G fun k => xK (q.p.lf k) i s r d) aa w)
theorem zGo {p : SP} (hl : p.lfs = zG p.l p.l.length) {G : Nat → List Cel} {k0 : Nat} (hk0 : k0 < p.m) {f : Nat → List Cel} {c : Cel} (h1 : f k0 = [c]) (h2 : ∀ k, k < p.m → p.lf k ≠ p.lf k0 → f k = []) : ∀ k, k < p.m → upd G k0 (G k0 ++ [c]) k = yH G f k := fun k hk => by
  unfold yH
  by_cases hkk : k = k0
  · subst hkk; rw [zU, h1]
  · rw [zL _ _ hkk, h2 k hk (fun he => hkk (zJu hl hk hk0 he)), List.append_nil]
theorem zGE (q : WP) {sh : Sh} (hS : Sch q.p.l sh) (hl : q.p.lfs = zG q.p.l q.p.l.length) (hll : q.p.l.length ≤ 1000) (s : Sh) (hk : s.kind ≠ 0) : zKI q s := by
  intro i r d w G aa hx hn hg h hG
  obtain ⟨nm, rp, kd, ks⟩ := s
  simp only [Sh.kind] at hk
  simp only [Ix] at hx
  simp only [zR] at hg
  obtain rfl := hg.2.2.2.2.1 hk
  simp only [Sh.size] at hn
  have hi : i < q.p.l.length := by omega
  obtain ⟨hil, hie⟩ := zLU.1 hx.1
  have hki : (flN q.p.l i).kind ≠ 0 := by rw [qS hil, hie]; exact hk
  obtain ⟨k0, rs, hv, hk0, hlk⟩ := zFd hS hl hi hki
  have hkb : (kd != 0) = true := by simp [hk]
  have hnc : ∀ k, xK (q.p.lf k) i (.mk nm rp kd []) r d = if i = q.p.lf k then [⟨r, d, none⟩] else [] := fun k => zGM
  have HF : Hid (∀ k, k < q.p.m → upd G k0 (G k0 ++ [⟨r, d, none⟩]) k = yH G (fun k => xK (q.p.lf k) i (.mk nm rp kd []) r d) k) := zH (zGo hl hk0 (by rw [hnc, if_pos hlk.symm]) (fun k _ hne => by rw [hnc, if_neg (fun he => hne (by rw [hlk]; exact he.symm))]))
  have hgk := hG k0 hk0
  rw [hnc, if_pos hlk.symm, zLR] at hgk
  obtain ⟨sb, so, hsa, hsb, hsc⟩ := h.s.pos (by omega)
  have f2 := (yB q.p.l i hil).2.2.1
  rw [hie] at f2
  dsimp only at f2
  replace f2 := hsc _ _ f2
  rw [← zLW] at f2
  have q0 : w.cell? ⟨q.p.bx, 0, none⟩ = some (.slice q.p.sa q.p.l.length q.p.sc) := h.row.cell 0
  rw [hsa] at q0
  have hi1 : (i : Int) < (q.p.l.length : Int) := by omega
  have HQ := zH h; have HLF := zH hl
  clear h hx hie hsc hg hnc hG hl
  subst hlk
  go_enter Try.func38, Try.ntmps38
  go_wp2_with fail
  refine (zHm q HLF.out hll G aa k0 hk0 (by omega) r d ⟨0, ByteArray.empty⟩ false w HQ.out).mono ?_
  rintro e w2 ⟨rfl, aa2, hs2, ht2⟩
  have HS2 := zH (hs2.congr (G' := yH G (fun k => xK (q.p.lf k) (q.p.lf k0) (.mk nm rp kd []) r d)) HF.out)
  have HT2 := zH ht2
  clear hs2 ht2 q0 f2
  go_wp2_with fail
  refine bodyPost_end (v := .tuple #[]) (by simp [results, Try.results38, go_sem]) rfl ?_
  exact ⟨rfl, aa2, HS2.out, HT2.out⟩
theorem zHT (q : WP) (hl : q.p.lfs = zG q.p.l q.p.l.length) (hll : q.p.l.length ≤ 1000) (nm : ByteArray) (rp : Int) (ks : List Sh) (IH : ∀ s ∈ ks, zKI q s) : zKI q (.mk nm rp 0 ks) := by
  intro i r d w G aa hx hn hg h hG
  simp only [zR] at hg
  simp only [Ix] at hx
  simp only [Sh.size] at hn
  have hi : i < q.p.l.length := by omega
  obtain ⟨hil, hie⟩ := zLU.1 hx.1
  have hKO : zK (par q.p.l) (i : Int) = yX (i + 1) ks := hx.2.1
  have hki : (flN q.p.l i).kind = 0 := by rw [qS hil, hie]
  obtain ⟨sb, so, hsa, hsb, hsc⟩ := h.s.pos (by omega)
  have f2 := (yB q.p.l i hil).2.2.1
  rw [hie] at f2
  dsimp only at f2
  replace f2 := hsc _ _ f2
  rw [← zLW] at f2
  have q0 : w.cell? ⟨q.p.bx, 0, none⟩ = some (.slice q.p.sa q.p.l.length q.p.sc) := h.row.cell 0
  rw [hsa] at q0
  have hi1 : (i : Int) < (q.p.l.length : Int) := by omega
  have hpl := zW q.p.l
  have HRS : Hid (rest (par q.p.l) i (i + 1) = yX (i + 1 + zC []) ks) := zH (by
    rw [wD (fun j hj => (yI q.p.l j hj).2), ← wJ]; exact hKO)
  have hnc : ∀ k, k < q.p.m → xK (q.p.lf k) i (.mk nm rp 0 ks) r d = wF (q.p.lf k) (i + 1) r d ks := fun k hk => zFG (fun he => (zD3 hl hk).2 (by rw [he]; exact hki))
  have HNC := zH hnc
  have HG : Hid (∀ k, k < q.p.m → (G k).length + (wF (q.p.lf k) (i + 1) r d ks).length ≤ 1000000000000) := zH (fun k hk => by have := hG k hk; rw [hnc k hk] at this; exact this)
  have HQ := zH h; have HIX := zH hx.2.2; have HGL := zH hg.2.2.2.2.2.2; have HIH := zH IH
  clear h hx hie hsc hg hG hKO IH hnc hki
  go_enter Try.func38, Try.ntmps38
  go_wp2_with fail
  clear q0 f2
  go_loopw [8] (fun jv wr => ∃ (done todo : List Sh) (j : Nat) (aa1 : Nat → Option Addr), jv = .int .i64 (j : Int) ∧ i < j ∧ j ≤ q.p.l.length ∧ Hid (ks = done ++ todo) ∧ Hid (rest (par q.p.l) i j = yX (i + 1 + zC done) todo) ∧ Hid (Wk q wr (yH G (fun k => wF (q.p.lf k) (i + 1) r d done)) aa1) ∧ Hid (Stp q.p aa w aa1 wr)) (fun jv _ => q.p.l.length - (intOf jv).toNat)
  case atStart => exact ⟨[], ks, i + 1, aa, by first | rfl | go_num, by omega, by omega, zH rfl, HRS, zH (HQ.out.congr (fun k _ => by simp [yH, wF])), zH (Stp.below (b0 w))⟩
  case round =>
    obtain ⟨done, todo, j, aa1, rfl, hij, hj, HD, HR, HS, HT⟩ := hrel
    have q0 : wr.cell? ⟨q.p.bx, 0, none⟩ = some (.slice q.p.sa q.p.l.length q.p.sc) := HS.out.row.cell 0
    have q1 : wr.cell? ⟨q.p.bx, 1, none⟩ = some (.slice q.pa q.p.l.length q.pc) := HS.out.row.cell 1
    by_cases hlt : j < q.p.l.length
    · have hjp : j < (par q.p.l).length := by omega
      obtain ⟨pb, po, hpa, hpb, hpc⟩ := HS.out.par.pos (by omega)
      have c0 := hpc _ _ (zO (par q.p.l) j hjp)
      rw [hpa] at q1
      by_cases hp : (par q.p.l)[j] = (i : Int)
      · have hbe : ((par q.p.l)[j] == (i : Int)) = true := beq_iff_eq.2 hp
        have hry := zAU hjp hp
        rw [HR.out] at hry
        obtain ⟨s, qq, rfl, hjo, hr2⟩ := zAK hry
        have hjo' : j = i + 1 + zC done := by omega
        have hdl : done.length < ks.length := by have := congrArg List.length HD.out; simp at this; omega
        obtain ⟨_, hixs, hos⟩ := zAv ks (i + 1) done.length hdl HIX.out
        have hsk : ks[done.length] = s := by simp [HD.out]
        have htd : ks.take done.length = done := by rw [HD.out]; simp
        rw [htd, hsk, ← hjo'] at hixs
        rw [htd, hsk] at hos
        have hsm : s ∈ ks := by rw [HD.out]; simp
        have hsg := wM HGL.out hsm
        have HNX : Hid (ks = (done ++ [s]) ++ qq) := zH (by rw [HD.out]; simp)
        have HR2 : Hid (rest (par q.p.l) i (j + 1) = yX (i + 1 + zC (done ++ [s])) qq) := zH (by
          rw [hr2, yA]; simp only [zC, Nat.add_zero, ← zLW])
        have HSN : Hid (∀ lf, wF lf (i + 1) r d (done ++ [s]) = wF lf (i + 1) r d done ++ xK lf j s r d) := zH (fun lf => by rw [zDp, ← hjo'])
        have HGX : Hid (∀ k, k < q.p.m → (yH G (fun k => wF (q.p.lf k) (i + 1) r d done) k).length + (xK (q.p.lf k) j s r d).length ≤ 1000000000000) := zH (fun k hk => by
          have h1 := HG.out k hk
          have h2 := zEv (q.p.lf k) r d (done ++ [s]) qq (i + 1)
          rw [← HNX.out, HSN.out, zLQ] at h2
          unfold yH
          rw [zLQ]
          dsimp only
          omega)
        have HV := zH (HIH.out s hsm)
        have HIXS := zH hixs; have HSG := zH hsg
        have hon : j + s.size ≤ q.p.l.length := by omega
        generalize (par q.p.l)[j] = pj at *
        subst hp
        clear hry hr2 hjo' hdl hixs hos hsk htd hsm hsg hpc hpa hjo
        go_wp2_with fail
        refine (HV.out j r d wr _ aa1 HIXS.out hon HSG.out HS.out HGX.out).mono ?_
        rintro e w2 ⟨rfl, aa2, hs2, ht2⟩
        have HS2 := zH (hs2.congr (G' := yH G (fun k => wF (q.p.lf k) (i + 1) r d (done ++ [s]))) (fun k _ => by
          unfold yH
          dsimp only
          rw [HSN.out, List.append_assoc]))
        have HT2 := zH (HT.out.trans ht2)
        clear hs2 ht2 c0 q0 q1
        go_wp2_with fail
        go_roundw
        case rel => exact ⟨done ++ [s], qq, j + 1, aa2, by go_num, by omega, by omega, HNX, HR2, HS2, HT2⟩
        case measure => simp [intOf]; omega
      · have hbe : ((par q.p.l)[j] == (i : Int)) = false := beq_eq_false_iff_ne.2 hp
        have HR2 : Hid (rest (par q.p.l) i (j + 1) = yX (i + 1 + zC done) todo) := zH (by rw [← zBK hjp hp]; exact HR.out)
        generalize (par q.p.l)[j] = pj at *
        clear hpc hpa
        go_wp2_with fail
        go_roundw
        case rel => exact ⟨done, todo, j + 1, aa1, by go_num, by omega, by omega, HD, HR2, HS, HT⟩
        case measure => simp [intOf]; omega
    · obtain rfl : j = q.p.l.length := by omega
      have hre := zAV (P := par q.p.l) (v := (i : Int)) (i := q.p.l.length) (by omega)
      rw [HR.out] at hre
      obtain rfl := zBv hre
      have hd' : ks = done := by rw [HD.out]; simp
      subst hd'
      clear hre
      go_wp2_with fail
      refine bodyPost_end (v := .tuple #[]) (by simp [results, Try.results38, go_sem]) rfl ?_
      refine ⟨rfl, aa1, HS.out.congr (fun k hk => ?_), HT.out⟩
      unfold yH
      dsimp only
      rw [HNC.out k hk]
theorem zEn (q : WP) {sh : Sh} (hS : Sch q.p.l sh) (hl : q.p.lfs = zG q.p.l q.p.l.length) (hll : q.p.l.length ≤ 1000) : ∀ (N : Nat) (s : Sh), s.size ≤ N → zKI q s
  | 0, .mk _ _ _ _, h => by simp [Sh.size] at h
  | N + 1, .mk nm rp kd ks, h => by
    by_cases hk : kd = 0
    · subst hk
      simp only [Sh.size] at h
      refine zHT q hl hll nm rp ks (fun s hs => zEn q hS hl hll N s ?_)
      have : ∀ (q : List Sh), s ∈ q → s.size ≤ zC q := by
        intro q
        induction q with
        | nil => intro h; cases h
        | cons x q ih =>
          intro h
          rcases List.mem_cons.1 h with rfl | h
          · simp [zC]
          · have := ih h; simp only [zC]; omega
      have := this ks hs
      omega
    · exact zGE q hS hl hll _ hk
end Go.Proofs.Ytjbkjfefjhbolaa
