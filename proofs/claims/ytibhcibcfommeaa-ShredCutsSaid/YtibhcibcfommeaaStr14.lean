/-
 The striper in memory; the walks of cell.
-/
import Derived.Test.YtibhcibcfommeaaTab14
import Derived.Test.YtibhcibcfommeaaRegJ
import Derived.Test.YtibhcibcfommeaaLeafP
import Derived.Deep.CutRange
set_option linter.unusedSimpArgs false
namespace Go.Proofs.Ytibhcibcfommeaa
open Go.RowKit Go.Shr
theorem info_vl : (Try.prog.info? 54).map (fun i => (i.zero, i.size, i.bytes)) = some (some (.agg #[.int .i64 0, .string ByteArray.empty]), 2, 24) := by kernel_rfl
theorem step_nothing {P : Program} {w : World} {ops : Array Oper} {o : Oper} {ac : Act} {K : Act → World → Prop} {Q : Exit → Act → World → Prop} {E : Prop} {e : TypeId} {size : Nat} {a : Option Addr} {n cap : Nat} (hgd : o.guard = none) (s x : Operand) (t tx : TypeId)
  (ho : o.op = .call { callee := .builtin .append, args := #[s, x], argTypes := #[t, tx] })
  (i : TypeInfo) (ht : P.underlying t = some (.slice e)) (hi : P.info? e = some i) (hsize : i.size = size) (hsv : ac.eval s = .slice a n cap) (hle : n ≤ cap) (v : Value) (hxv : ac.eval x = v) (hs : Src P size tx v 0 [] w)
  (hK : K (ac.put o.dst (.slice a n cap)) w) : if Region.wanted o (yielded ops ac.tmps) = true then Oper.wp P o ac w K Q else E := by
 have hw : Region.wanted o (yielded ops ac.tmps) = true := by simp [Region.wanted, hgd]
 rw [if_pos hw]
 subst hsize
 have hr := run_append_nothing (P := P) w t tx o.type e i ht hi a n cap hle v hs
 unfold Oper.wp execOp
 simp only [ho, resolve, invoke, builtin, Sem.run_bind, Sem.run_pure, Result.andThen_ok, List.map_toArray, List.map_cons, List.map_nil, hsv, hxv, hr]
 exact hK
section
variable {B : Nat} {w w' : World} {m : Nat} {C : Nat → List Cel} {aa : Nat → Option Addr} {cc : Nat → Nat} {k : Nat} {a0 a1 : Option Addr} {l0 l1 c0 c1 : Nat} {x0 x1 : List Value}
theorem OW.push0 (h : OW B w (m * 3) tyC szC aa (nC C) cc (xC C)) (hk : k < m) {a' : Option Addr} {n' c' : Nat} {X' : List Value} (hn0 : 0 < n') (ho : Own B w' 3 1 a' n' c' X') (hc : Chg (fun g => blk (aa (k * 3)) g ∧ B ≤ g ∧ 0 < cc (k * 3)) w w') (hn : ∀ g, blk a' g → blk (aa (k * 3)) g ∨ w.heap.size ≤ g) :
  OW B w' (m * 3) tyC szC (upd aa (k * 3) a') (upd (nC C) (k * 3) n') (upd cc (k * 3) c') (upd (xC C) (k * 3) X') :=
 h.push (show k * 3 < m * 3 by omega) hn0 (by rw [(ty0 k).1, (ty0 k).2]; exact ho) hc hn
theorem OW.own1' (h : OW B w (m * 3) tyC szC (upd aa (k * 3) a0) (upd (nC C) (k * 3) l0) (upd cc (k * 3) c0) (upd (xC C) (k * 3) x0)) (hk : k < m) : Own B w 3 1 (aa (k * 3 + 1)) (C k).length (cc (k * 3 + 1)) (celD (C k)) := by
 have := h.own (k * 3 + 1) (by omega)
 rwa [(ty1 k).1, (ty1 k).2, upd_ne _ _ (by omega), upd_ne _ _ (by omega), upd_ne _ _ (by omega), upd_ne _ _ (by omega), (n1 C k).1, (n1 C k).2] at this
theorem OW.push1 (h : OW B w (m * 3) tyC szC (upd aa (k * 3) a0) (upd (nC C) (k * 3) l0) (upd cc (k * 3) c0) (upd (xC C) (k * 3) x0)) (hk : k < m) {a' : Option Addr} {n' c' : Nat} {X' : List Value} (hn0 : 0 < n') (ho : Own B w' 3 1 a' n' c' X') (hc : Chg (fun g => blk (aa (k * 3 + 1)) g ∧ B ≤ g ∧ 0 < cc (k * 3 + 1)) w w') (hn : ∀ g, blk a' g → blk (aa (k * 3 + 1)) g ∨ w.heap.size ≤ g) :
  OW B w' (m * 3) tyC szC (upd (upd aa (k * 3) a0) (k * 3 + 1) a') (upd (upd (nC C) (k * 3) l0) (k * 3 + 1) n') (upd (upd cc (k * 3) c0) (k * 3 + 1) c') (upd (upd (xC C) (k * 3) x0) (k * 3 + 1) X') :=
 h.push (show k * 3 + 1 < m * 3 by omega) hn0 (by rw [(ty1 k).1, (ty1 k).2]; exact ho) (by rw [upd_ne _ _ (by omega), upd_ne _ _ (by omega)]; exact hc) (by rw [upd_ne _ _ (by omega)]; exact hn)
theorem OW.own2' (h : OW B w (m * 3) tyC szC (upd (upd aa (k * 3) a0) (k * 3 + 1) a1) (upd (upd (nC C) (k * 3) l0) (k * 3 + 1) l1) (upd (upd cc (k * 3) c0) (k * 3 + 1) c1) (upd (upd (xC C) (k * 3) x0) (k * 3 + 1) x1)) (hk : k < m) : Own B w 54 2 (aa (k * 3 + 2)) (celV (C k)).length (cc (k * 3 + 2)) (vcs (celV (C k))) := by
 have := h.own (k * 3 + 2) (by omega)
 rwa [(ty2 k).1, (ty2 k).2, upd_ne _ _ (by omega), upd_ne _ _ (by omega), upd_ne _ _ (by omega), upd_ne _ _ (by omega), upd_ne _ _ (by omega), upd_ne _ _ (by omega), upd_ne _ _ (by omega), upd_ne _ _ (by omega), (n2 C k).1, (n2 C k).2] at this
theorem OW.push2 (h : OW B w (m * 3) tyC szC (upd (upd aa (k * 3) a0) (k * 3 + 1) a1) (upd (upd (nC C) (k * 3) l0) (k * 3 + 1) l1) (upd (upd cc (k * 3) c0) (k * 3 + 1) c1) (upd (upd (xC C) (k * 3) x0) (k * 3 + 1) x1)) (hk : k < m) {a' : Option Addr} {n' c' : Nat} {X' : List Value} (hn0 : 0 < n') (ho : Own B w' 54 2 a' n' c' X') (hc : Chg (fun g => blk (aa (k * 3 + 2)) g ∧ B ≤ g ∧ 0 < cc (k * 3 + 2)) w w') (hn : ∀ g, blk a' g → blk (aa (k * 3 + 2)) g ∨ w.heap.size ≤ g) :
  OW B w' (m * 3) tyC szC (upd (upd (upd aa (k * 3) a0) (k * 3 + 1) a1) (k * 3 + 2) a') (upd (upd (upd (nC C) (k * 3) l0) (k * 3 + 1) l1) (k * 3 + 2) n') (upd (upd (upd cc (k * 3) c0) (k * 3 + 1) c1) (k * 3 + 2) c') (upd (upd (upd (xC C) (k * 3) x0) (k * 3 + 1) x1) (k * 3 + 2) X') :=
 h.push (show k * 3 + 2 < m * 3 by omega) hn0 (by rw [(ty2 k).1, (ty2 k).2]; exact ho) (by rw [upd_ne _ _ (by omega), upd_ne _ _ (by omega), upd_ne _ _ (by omega), upd_ne _ _ (by omega)]; exact hc) (by rw [upd_ne _ _ (by omega), upd_ne _ _ (by omega)]; exact hn)
theorem upd_same {α : Type} (f : Nat → α) (j : Nat) (x : α) (hx : x = f j) (i : Nat) : f i = upd f j x i := by
 by_cases h : i = j
 ·subst h; rw [upd_self, hx]
 ·rw [upd_ne _ _ h]
theorem OW.same2 (h : OW B w (m * 3) tyC szC (upd (upd aa (k * 3) a0) (k * 3 + 1) a1) (upd (upd (nC C) (k * 3) l0) (k * 3 + 1) l1) (upd (upd cc (k * 3) c0) (k * 3 + 1) c1) (upd (upd (xC C) (k * 3) x0) (k * 3 + 1) x1)) :
  OW B w (m * 3) tyC szC (upd (upd (upd aa (k * 3) a0) (k * 3 + 1) a1) (k * 3 + 2) (aa (k * 3 + 2))) (upd (upd (upd (nC C) (k * 3) l0) (k * 3 + 1) l1) (k * 3 + 2) (celV (C k)).length) (upd (upd (upd cc (k * 3) c0) (k * 3 + 1) c1) (k * 3 + 2) (cc (k * 3 + 2))) (upd (upd (upd (xC C) (k * 3) x0) (k * 3 + 1) x1) (k * 3 + 2) (vcs (celV (C k)))) :=
 h.congr (fun j _ => upd_same _ _ _ (by rw [upd_ne _ _ (by omega), upd_ne _ _ (by omega)]) j) (fun j _ => upd_same _ _ _ (by rw [upd_ne _ _ (by omega), upd_ne _ _ (by omega), (n2 C k).1]) j) (fun j _ => upd_same _ _ _ (by rw [upd_ne _ _ (by omega), upd_ne _ _ (by omega)]) j) (fun j _ => upd_same _ _ _ (by rw [upd_ne _ _ (by omega), upd_ne _ _ (by omega), (n2 C k).2]) j)
end
/-- Lists of numbers that are read, in blocks of which something holds. -/
def KidsG (ok : Nat → Prop) (w : World) (bk n : Nat) (K : Nat → List Int) : Prop := ∀ k, k < n → ok bk ∧ ∃ a c, w.cell? ⟨bk, k, none⟩ = some (.slice a (K k).length c) ∧ Sl ok w 1 a (K k).length c (ints (K k))
theorem KidsG.go {ok ok' S : Nat → Prop} {w w' : World} {bk n : Nat} {K : Nat → List Int} (h : KidsG ok w bk n K) (hc : Chg S w w') (hn : ∀ k, k < w.heap.size → ok k → ¬ S k ∧ ok' k) : KidsG ok' w' bk n K := fun k hk => by
 obtain ⟨h1, a, c, h2, h3⟩ := h k hk
 have hl := World.block_lt_of_cell? w _ h2
 exact ⟨(hn bk hl h1).2, a, c, hc.keep h2 (hn bk hl h1).1, h3.go hc hn (by decide)⟩
/-- Where things of a striper lie. -/
structure SP where
 bx : Nat
 bk : Nat
 bl : Nat
 bc : Nat
 B : Nat
 B0 : Nat
 sa : Option Addr
 sc : Nat
 l : List Fl
 lfs : List Nat
def SP.m (p : SP) : Nat := p.lfs.length
/-- The leaves in a field, by numbers. -/
def SP.lv (p : SP) (i : Nat) : List Nat := (List.range p.m).filter fun k => decide (i ∈ Go.Shr.chain (par p.l) (p.lfs.getD k 0))
def SP.ok (p : SP) (b : Nat) : Prop := b < p.B ∧ b ≠ p.bx ∧ b ≠ p.bc
/-- The blocks of the columns' rows. -/
def SP.tb (p : SP) (aa : Nat → Option Addr) (b : Nat) : Prop := ∃ j, j < p.m * 3 ∧ blk (aa j) b
def SP.ch (p : SP) (aa : Nat → Option Addr) (b : Nat) : Prop := b = p.bx ∨ b = p.bc ∨ p.tb aa b
/-- What a striper's walk may change. -/
def Stp (p : SP) (aa : Nat → Option Addr) (w : World) (aa' : Nat → Option Addr) (w' : World) : Prop := Chg (p.ch aa) w w' ∧ ∀ b, p.tb aa' b → p.tb aa b ∨ w.heap.size ≤ b
theorem tb_push {p : SP} {aa aa1 : Nat → Option Addr} {j : Nat} {a' : Option Addr} {w W : World} (h : ∀ b, p.tb aa1 b → p.tb aa b ∨ w.heap.size ≤ b) (hj : j < p.m * 3) (hn : ∀ g, blk a' g → blk (aa1 j) g ∨ W.heap.size ≤ g) (hz : w.heap.size ≤ W.heap.size) :
  ∀ b, p.tb (upd aa1 j a') b → p.tb aa b ∨ w.heap.size ≤ b := by
 rintro b ⟨i, hi, hg⟩
 by_cases hij : i = j
 ·subst hij
  rw [upd_self] at hg
  rcases hn b hg with h1 | h1
  ·exact h b ⟨i, hi, h1⟩
  ·exact .inr (Nat.le_trans hz h1)
 ·rw [upd_ne _ _ hij] at hg
  exact h b ⟨i, hi, hg⟩
theorem Stp.below {p : SP} {aa : Nat → Option Addr} {w w' : World} (hb : Below w.heap.size w w') : Stp p aa w aa w' := ⟨(⟨hb.os, hb.tape, hb.output, hb.size, fun k hk _ => hb.block k hk⟩ : Chg (p.ch aa) w w'), fun b h => .inl h⟩
theorem Stp.trans {p : SP} {aa aa1 aa2 : Nat → Option Addr} {w w1 w2 : World} (h : Stp p aa w aa1 w1) (k : Stp p aa1 w1 aa2 w2) : Stp p aa w aa2 w2 :=
 ⟨h.1.trans k.1 (fun i hi hc => by
  rcases hc with hc | hc | hc
  ·exact .inl hc
  ·exact .inr (.inl hc)
  ·rcases h.2 i hc with h1 | h1
   ·exact .inr (.inr h1)
   ·omega), fun b hb => by
  rcases k.2 b hb with h1 | h1
  ·exact h.2 b h1
  ·exact .inr (Nat.le_trans h.1.size h1)⟩
def mny (m : Nat) (G : Nat → List Cel) : Bool := (List.range m).any fun k => decide (4000 < (G k).length)
def cut4 (G : Nat → List Cel) (k : Nat) : List Cel := (G k).take 4000
/-- A striper on its way; of each leaf all cells so far. -/
structure Str (p : SP) (w : World) (G : Nat → List Cel) (aa : Nat → Option Addr) : Prop where
 row : Rw w p.bx #[.slice p.sa p.l.length p.sc, .slice (some ⟨p.bk, 0, none⟩) p.l.length p.l.length, .slice (some ⟨p.bl, 0, none⟩) p.l.length p.l.length, .slice (some ⟨p.bc, 0, none⟩) p.m p.m, .bool (mny p.m G)] 72
 s : Sl p.ok w 4 p.sa p.l.length p.sc (fls p.l)
 kids : KidsG p.ok w p.bk p.l.length (fun k => kidsOf (par p.l) k)
 lvs : KidsG p.ok w p.bl p.l.length (fun i => List.map (fun k : Nat => (k : Int)) (p.lv i))
 tab : ∃ cur cc, CT p.B w p.bc p.m (cut4 G) cur aa cc
 bds : p.bx < p.B ∧ p.bc < p.B ∧ p.bx ≠ p.bc ∧ p.B0 ≤ p.bx ∧ p.B0 ≤ p.bc ∧ p.B ≤ w.heap.size
theorem chF {w w' : World} (h : Below w.heap.size w w') : Chg (fun _ => False) w w' := ⟨h.os, h.tape, h.output, h.size, fun k hk _ => h.block k hk⟩
theorem CT.congr {B : Nat} {w : World} {bc m : Nat} {C C' : Nat → List Cel} {cur : Array Value} {aa : Nat → Option Addr} {cc : Nat → Nat} (h : CT B w bc m C cur aa cc) (hC : ∀ k, k < m → C k = C' k) : CT B w bc m C' cur aa cc := by
 have h1 : ∀ j, j < m * 3 → nC C j = nC C' j := fun j hj => by unfold nC; rw [hC (j / 3) (by omega)]
 have h2 : ∀ j, j < m * 3 → xC C j = xC C' j := fun j hj => by unfold xC; rw [hC (j / 3) (by omega)]
 exact ⟨h.row, h.size, h.hds.congr (fun _ _ => rfl) h1 (fun _ _ => rfl), h.ow.congr (fun _ _ => rfl) h1 (fun _ _ => rfl) h2, h.lt⟩
theorem mny_congr {m : Nat} {G G' : Nat → List Cel} (h : ∀ k, k < m → G k = G' k) : mny m G = mny m G' := by
 unfold mny
 rw [Bool.eq_iff_iff, List.any_eq_true, List.any_eq_true]
 constructor
 ·rintro ⟨k, h1, h2⟩; exact ⟨k, h1, by rw [← h k (List.mem_range.1 h1)]; exact h2⟩
 ·rintro ⟨k, h1, h2⟩; exact ⟨k, h1, by rw [h k (List.mem_range.1 h1)]; exact h2⟩
theorem Str.congr {p : SP} {w : World} {G G' : Nat → List Cel} {aa : Nat → Option Addr} (h : Str p w G aa) (hG : ∀ k, k < p.m → G k = G' k) : Str p w G' aa := by
 obtain ⟨cur, cc, ht⟩ := h.tab
 exact ⟨by rw [← mny_congr hG]; exact h.row, h.s, h.kids, h.lvs, ⟨cur, cc, ht.congr (fun k hk => by unfold cut4; rw [hG k hk])⟩, h.bds⟩
theorem Str.below {p : SP} {w w' : World} {G : Nat → List Cel} {aa : Nat → Option Addr} (h : Str p w G aa) (hb : Below w.heap.size w w') : Str p w' G aa := by
 obtain ⟨cur, cc, ht⟩ := h.tab
 have hc := chF hb
 exact ⟨h.row.below hb, h.s.go hc (fun _ _ h => ⟨fun h => h, h⟩) (by decide), h.kids.go hc (fun _ _ h => ⟨fun h => h, h⟩), h.lvs.go hc (fun _ _ h => ⟨fun h => h, h⟩), ⟨cur, cc, ht.below hb⟩, by have := h.bds; have := hb.size; omega⟩
theorem Str.tbs {p : SP} {w : World} {G : Nat → List Cel} {aa : Nat → Option Addr} (h : Str p w G aa) {b : Nat} (hb : p.tb aa b) : p.B ≤ b ∧ b < w.heap.size := by
 obtain ⟨cur, cc, ht⟩ := h.tab
 obtain ⟨j, hj, hg⟩ := hb
 have := ht.ow.lt j b hj hg
 omega
def CellQ (p : SP) (G : Nat → List Cel) (aa : Nat → Option Addr) (w : World) (e : Ending) (w' : World) : Prop := e = .returned (.tuple #[]) ∧ ∃ aa', Str p w' G aa' ∧ Stp p aa w aa' w'
theorem mny_add {m : Nat} {G : Nat → List Cel} {k : Nat} (hk : k < m) (c : Cel) (h : (G k).length < 4000) : mny m (upd G k (G k ++ [c])) = mny m G := by
 unfold mny
 rw [Bool.eq_iff_iff, List.any_eq_true, List.any_eq_true]
 constructor
 ·rintro ⟨j, h1, h2⟩
  refine ⟨j, h1, ?_⟩
  by_cases hj : j = k
  ·subst hj; rw [upd_self] at h2; have := of_decide_eq_true h2; rw [List.length_append, List.length_singleton] at this; omega
  ·rw [upd_ne _ _ hj] at h2; exact h2
 ·rintro ⟨j, h1, h2⟩
  refine ⟨j, h1, ?_⟩
  by_cases hj : j = k
  ·subst hj; have := of_decide_eq_true h2; omega
  ·rw [upd_ne _ _ hj]; exact h2
theorem mny_over {m : Nat} {G : Nat → List Cel} {k : Nat} (hk : k < m) (c : Cel) (h : 4000 ≤ (G k).length) : mny m (upd G k (G k ++ [c])) = true := by
 unfold mny
 rw [List.any_eq_true]
 refine ⟨k, List.mem_range.2 hk, ?_⟩
 rw [upd_self, List.length_append, List.length_singleton]
 exact decide_eq_true (by omega)
theorem cut4_add {G : Nat → List Cel} {k : Nat} (c : Cel) (h : (G k).length < 4000) (j : Nat) : upd (cut4 G) k (cut4 G k ++ [c]) j = cut4 (upd G k (G k ++ [c])) j := by
 unfold cut4
 by_cases hj : j = k
 ·subst hj
  rw [upd_self, upd_self, List.take_of_length_le (by omega), List.take_of_length_le (by rw [List.length_append, List.length_singleton]; omega)]
 ·rw [upd_ne _ _ hj, upd_ne _ _ hj]
theorem cut4_over {G : Nat → List Cel} {k : Nat} (c : Cel) (h : 4000 ≤ (G k).length) (j : Nat) : cut4 G j = cut4 (upd G k (G k ++ [c])) j := by
 unfold cut4
 by_cases hj : j = k
 ·subst hj; rw [upd_self, List.take_append_of_le_length h]
 ·rw [upd_ne _ _ hj]
theorem Str.okch {p : SP} {w : World} {G : Nat → List Cel} {aa : Nat → Option Addr} (h : Str p w G aa) {b : Nat} (hb : p.ok b) : ¬ p.ch aa b := fun h2 => by
 obtain ⟨h3, h4, h5⟩ := hb
 rcases h2 with h2 | h2 | h2
 ·exact h4 h2
 ·exact h5 h2
 ·have := (h.tbs h2).1; omega
/-- What lies below the striper stays. -/
theorem Str.low {p : SP} {w : World} {G : Nat → List Cel} {aa : Nat → Option Addr} (h : Str p w G aa) {b : Nat} (hb : b < p.B0) : ¬ p.ch aa b := fun h2 => by
 have := h.bds
 rcases h2 with h2 | h2 | h2
 ·omega
 ·omega
 ·have := (h.tbs h2).1; omega
section
variable {B : Nat} {W X : World} {N : Nat} {ty : Nat → TypeId} {sz : Nat → Nat} {aa : Nat → Option Addr} {n cc : Nat → Nat} {Y : Nat → List Value}
theorem OW.nb (_ : OW B W N ty sz aa n cc Y) {o : Obj} (hX : X = W.alloc o) : Below W.heap.size W X := by rw [hX]; exact ba (b0 W) _
theorem OW.nr (_ : OW B W N ty sz aa n cc Y) {cur : Array Value} {t : TypeId} (hX : X = W.alloc (.cells cur t)) : Rw X W.heap.size cur t := by rw [hX]; exact Rw.new W _ _
end
end Go.Proofs.Ytibhcibcfommeaa
