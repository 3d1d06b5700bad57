import Derived.WalkKit
import Derived.WalkSpells
import Derived.WalkLawsBesides
import Derived.Deep.AppendSrc
import Derived.Deep.Upon
import Derived.Lib.Hide
import Derived.ProofKit
import Derived.OpenShut
import Derived.ShutString
import Derived.ChangeOld
import Derived.Below
import Derived.Deep.RegionHeld3
import Derived.Deep.QuietTactic
import Derived.BigQuiet
set_option linter.all false
open List renaming eq_nil_of_length_eq_zero → zLP, getElem?_take → zLV, length_take → zLW, length_append → zL1, size_toArray → zL2
open Array renaming getElem?_eq_some_iff → zLQ, length_toList → zLY, getElem?_modify → zL0
open Nat renaming le_refl → zLR, mul_le_mul_right → zLS, le_trans → zLT, lt_of_lt_of_le → zLU, min_eq_left → zLX, zero_le → zLZ, add_mul → zL3
namespace Go.Shr
open Go.RowKit

structure Chg (S : Nat → Prop) (w w' : World) : Prop where
 os : w'.os = w.os
 tape : w'.tape = w.tape
 output : w'.output = w.output
 size : w.heap.size ≤ w'.heap.size
 block : ∀ k, k < w.heap.size → ¬ S k → w'.heap[k]? = w.heap[k]?

theorem Chg.refl (S : Nat → Prop) (w : World) : Chg S w w := ⟨rfl, rfl, rfl, zLR _, fun _ _ _ => rfl⟩
theorem Chg.trans {S S' : Nat → Prop} {a b c : World} (h : Chg S a b) (k : Chg S' b c) (hS : ∀ i, i < a.heap.size → S' i → S i) : Chg S a c :=
 ⟨k.os.trans h.os, k.tape.trans h.tape, k.output.trans h.output, zLT h.size k.size, fun i hi hn => (k.block i (zLU hi h.size) (fun hs => hn (hS i hi hs))).trans (h.block i hi hn)⟩
theorem Chg.mono {S S' : Nat → Prop} {w w' : World} (h : Chg S w w') (hS : ∀ i, i < w.heap.size → S i → S' i) : Chg S' w w' :=
 ⟨h.os, h.tape, h.output, h.size, fun k hk hn => h.block k hk (fun hs => hn (hS k hk hs))⟩
theorem Chg.below {S : Nat → Prop} {w w' : World} (h : Chg S w w') {B : Nat} (hB : B ≤ w.heap.size) (hS : ∀ i, i < B → ¬ S i) : Below B w w' :=
 ⟨h.os, h.tape, h.output, h.size, fun k hk => h.block k (zLU hk hB) (hS k hk)⟩
theorem Chg.ofBelow {B : Nat} {w w' : World} (h : Below B w w') : Chg (fun k => B ≤ k) w w' :=
 ⟨h.os, h.tape, h.output, h.size, fun k _ hn => h.block k (by omega)⟩
theorem Chg.alloc {S : Nat → Prop} {a w : World} (h : Chg S a w) (o : Obj) : Chg S a (w.alloc o) :=
 ⟨h.os, h.tape, h.output, zLT h.size (by simp), fun k hk hn => (Below.heap_alloc w o k (zLU hk h.size)).trans (h.block k hk hn)⟩
theorem Chg.drew {S : Nat → Prop} {a w : World} (h : Chg S a w) : Chg S a w.drew := ⟨h.os, h.tape, h.output, h.size, h.block⟩
theorem Chg.setCell {S : Nat → Prop} {a w : World} (h : Chg S a w) {p : Addr} (hp : a.heap.size ≤ p.block ∨ S p.block) (u : Value) : Chg S a (w.setCell p u) :=
 ⟨h.os, h.tape, h.output, zLT h.size (by simp), fun k hk hn => (Below.heap_setCell w p u k (fun e => by subst e; rcases hp with hp | hp; omega; exact hn hp)).trans (h.block k hk hn)⟩
theorem Chg.nothing {S : Nat → Prop} {w w' : World} (h : Chg S w w') (hS : ∀ i, i < w.heap.size → ¬ S i) : Below w.heap.size w w' := h.below (zLR _) hS
theorem Chg.keep {S : Nat → Prop} {w w' : World} (h : Chg S w w') {b o : Nat} {u : Value} (hc : w.cell? ⟨b, o, .none⟩ = some u) (hn : ¬ S b) : w'.cell? ⟨b, o, .none⟩ = some u :=
 (World.cell?_of_block (a := ⟨b, o, .none⟩) (h.block b (World.block_lt_of_cell? w ⟨b, o, .none⟩ hc) hn)).trans hc

structure Own (B : Nat) (w : World) (e : TypeId) (size : Nat) (a : Option Addr) (n cap : Nat) (xs : List Value) : Prop where
 len : xs.length = n * size
 le : n ≤ cap
 max : cap ≤ maxLen
 row : cap = 0 ∨ ∃ g cur, a = some ⟨g, 0, none⟩ ∧ B ≤ g ∧ w.heap[g]? = some (.cells cur e (0, 0)) ∧ cur.size = cap * size ∧ cur.toList.take (n * size) = xs

structure Sl (ok : Nat → Prop) (w : World) (size : Nat) (a : Option Addr) (n cap : Nat) (xs : List Value) : Prop where
 len : xs.length = n * size
 le : n ≤ cap
 max : cap ≤ maxLen
 row : n = 0 ∨ ∃ b off, a = some ⟨b, off, none⟩ ∧ ok b ∧ ∀ j u, xs[j]? = some u → w.cell? ⟨b, off + j, none⟩ = some u

def blk (a : Option Addr) (k : Nat) : Prop := ∃ o s, a = some ⟨k, o, s⟩

section
variable {B : Nat} {w w' : World} {e : TypeId} {size : Nat} {a : Option Addr} {n cap : Nat} {xs : List Value}

theorem Own.nil (B : Nat) (w : World) (e : TypeId) (size : Nat) : Own B w e size none 0 0 [] := ⟨by simp, zLR _, zLZ _, .inl rfl⟩
theorem Own.bare (B : Nat) (w : World) (e : TypeId) (size : Nat) (a : Option Addr) : Own B w e size a 0 0 [] := ⟨by simp, zLR _, zLZ _, .inl rfl⟩

theorem Own.chg {S : Nat → Prop} (h : Own B w e size a n cap xs) (hc : Chg S w w') (hn : ∀ k, blk a k → ¬ S k) : Own B w' e size a n cap xs := by
 refine ⟨h.len, h.le, h.max, h.row.imp id ?_⟩
 rintro ⟨g, cur, rfl, hB, hg, hs, ht⟩
 exact ⟨g, cur, rfl, hB, (hc.block g (zLQ.1 hg).1 (hn g ⟨_, _, rfl⟩)).trans hg, hs, ht⟩
theorem Own.alloc (h : Own B w e size a n cap xs) (o : Obj) : Own B (w.alloc o) e size a n cap xs := h.chg (S := fun _ => False) ((Chg.refl _ w).alloc o) (fun _ _ h => h)
theorem Own.drew (h : Own B w e size a n cap xs) : Own B w.drew e size a n cap xs := h.chg (S := fun _ => False) ((Chg.refl _ w).drew) (fun _ _ h => h)
theorem Own.mono (h : Own B w e size a n cap xs) {B' : Nat} (hB : B' ≤ B) : Own B' w e size a n cap xs :=
 ⟨h.len, h.le, h.max, h.row.imp id (fun ⟨g, cur, h1, h2, h3⟩ => ⟨g, cur, h1, zLT hB h2, h3⟩)⟩
theorem Own.setCell (h : Own B w e size a n cap xs) {p : Addr} (hp : ∀ k, blk a k → k ≠ p.block) (u : Value) : Own B (w.setCell p u) e size a n cap xs :=
 h.chg (S := fun k => k = p.block) ((Chg.refl (fun k => k = p.block) w).setCell (p := p) (.inr rfl) u) (fun k hk e => hp k hk e)
theorem Own.setBelow (h : Own B w e size a n cap xs) {p : Addr} (hp : p.block < B) (u : Value) : Own B (w.setCell p u) e size a n cap xs := by
 rcases h.row with h0 | ⟨g, cur, rfl, hB, hg, hs, ht⟩
 ·exact ⟨h.len, h.le, h.max, .inl h0⟩
 ·exact h.setCell (fun k ⟨o, s, e'⟩ => by cases e'; omega) u

theorem Own.sl (h : Own B w e size a n cap xs) : Sl (fun k => B ≤ k ∧ blk a k ∧ k < w.heap.size) w size a n cap xs := by
 refine ⟨h.len, h.le, h.max, ?_⟩
 rcases h.row with h0 | ⟨g, cur, rfl, hB, hg, hs, ht⟩
 ·exact .inl (by have := h.le; omega)
 ·refine .inr ⟨g, 0, rfl, ⟨hB, ⟨_, _, rfl⟩, (zLQ.1 hg).1⟩, fun j u hj => ?_⟩
  rw [Nat.zero_add, cell_of_row w g j cur e (0, 0) hg]
  rw [← ht, zLV] at hj
  split at hj
  ·simpa using hj
  ·cases hj

theorem Own.pos (h : Own B w e size a n cap xs) (hn : 0 < n) : ∃ g, a = some ⟨g, 0, none⟩ ∧ B ≤ g ∧ g < w.heap.size ∧ (∀ j u, xs[j]? = some u → w.cell? ⟨g, j, none⟩ = some u) ∧ (∀ j, w.frozen? ⟨g, j, none⟩ = false) := by
 rcases h.row with h0 | ⟨g, cur, rfl, hB, hg, hs, ht⟩
 ·have := h.le; omega
 ·refine ⟨g, rfl, hB, (zLQ.1 hg).1, fun j u hj => ?_, fun j => by simp [World.frozen?, hg]⟩
  rw [cell_of_row w g j cur e (0, 0) hg]
  rw [← ht, zLV] at hj
  split at hj
  ·simpa using hj
  ·cases hj

theorem Own.stored (h : Own B w e size a n cap xs) {g : Nat} (ha : a = some ⟨g, 0, none⟩) (j : Nat) (u : Value) : Own B (w.setCell ⟨g, j, none⟩ u) e size a n cap (xs.set j u) := by
 refine ⟨by rw [List.length_set]; exact h.len, h.le, h.max, h.row.imp id ?_⟩
 rintro ⟨g', cur, rfl, hB, hg, hs, ht⟩
 cases ha
 refine ⟨g, cur.setIfInBounds j u, rfl, hB, ?_, by simpa using hs, ?_⟩
 ·simp [World.setCell, zL0, hg]
 ·rw [← ht, Array.toList_setIfInBounds, List.take_set]

theorem Own.made (w : World) (cur : Array Value) (n cap : Nat) (hb : B ≤ w.heap.size) (hle : n ≤ cap) (hm : cap ≤ maxLen) (hs : cur.size = cap * size) :
  Own B (w.alloc (.cells cur e)) e size (some ⟨w.heap.size, 0, none⟩) n cap (cur.toList.take (n * size)) := by
 refine ⟨?_, hle, hm, .inr ⟨_, cur, rfl, hb, heap_alloc_new w _, hs, rfl⟩⟩
 rw [zLW, zLY, hs]
 exact zLX (zLS _ hle)

theorem Own.new (w : World) (cur : Array Value) (n : Nat) (hb : B ≤ w.heap.size) (hm : n ≤ maxLen) (hs : cur.size = n * size) :
  Own B (w.alloc (.cells cur e)) e size (some ⟨w.heap.size, 0, none⟩) n n cur.toList := by
 have := Own.made (B := B) (e := e) (size := size) w cur n n hb (zLR _) hm hs
 rwa [List.take_of_length_le (by rw [zLY, hs]; exact zLR _)] at this

theorem Own.less (h : Own B w e size a n cap xs) {m : Nat} (hm : m ≤ n) : Own B w e size a m cap (xs.take (m * size)) := by
 refine ⟨?_, zLT hm h.le, h.max, h.row.imp id ?_⟩
 ·rw [zLW, h.len]; exact zLX (zLS _ hm)
 ·rintro ⟨g, cur, rfl, hB, hg, hs, ht⟩
  refine ⟨g, cur, rfl, hB, hg, hs, ?_⟩
  rw [← ht, List.take_take, zLX (zLS _ hm)]

variable {ok ok' : Nat → Prop}
theorem Sl.chg {S : Nat → Prop} (h : Sl ok w size a n cap xs) (hc : Chg S w w') (hn : ∀ k, ok k → ¬ S k) : Sl ok w' size a n cap xs :=
 ⟨h.len, h.le, h.max, h.row.imp id fun ⟨b, off, h1, h2, h3⟩ => ⟨b, off, h1, h2, fun j u hj => hc.keep (h3 j u hj) (hn b h2)⟩⟩
theorem Sl.mono (h : Sl ok w size a n cap xs) (hk : ∀ k, k < w.heap.size → ok k → ok' k) (hsz : 0 < size) : Sl ok' w size a n cap xs := by
 refine ⟨h.len, h.le, h.max, ?_⟩
 rcases h.row with h0 | ⟨b, off, h1, h2, h3⟩
 ·exact .inl h0
 ·by_cases hn : n = 0
  ·exact .inl hn
  ·refine .inr ⟨b, off, h1, hk b ?_ h2, h3⟩
   have hl : 0 < xs.length := by rw [h.len]; exact Nat.mul_pos (by omega) hsz
   exact World.block_lt_of_cell? w _ (h3 0 xs[0] (List.getElem?_eq_getElem hl))
theorem Sl.below (h : Sl ok w size a n cap xs) (hb : Below w.heap.size w w') : Sl ok w' size a n cap xs :=
 ⟨h.len, h.le, h.max, h.row.imp id fun ⟨b, off, h1, h2, h3⟩ => ⟨b, off, h1, h2, fun j u hj => (hb.cell (p := ⟨b, off + j, none⟩) (World.block_lt_of_cell? w ⟨b, off + j, none⟩ (h3 j u hj))).trans (h3 j u hj)⟩⟩
theorem Sl.alloc (h : Sl ok w size a n cap xs) (o : Obj) : Sl ok (w.alloc o) size a n cap xs := h.below ((Below.refl _ _).alloc (zLR _) o)
theorem Sl.drew (h : Sl ok w size a n cap xs) : Sl ok w.drew size a n cap xs := h.below (Below.refl _ _).drew
theorem Sl.nil (ok : Nat → Prop) (w : World) (size : Nat) (a : Option Addr) : Sl ok w size a 0 0 [] := ⟨by simp, zLR _, zLZ _, .inl rfl⟩
theorem Sl.pos (h : Sl ok w size a n cap xs) (hn : 0 < n) : ∃ b off, a = some ⟨b, off, none⟩ ∧ ok b ∧ ∀ j u, xs[j]? = some u → w.cell? ⟨b, off + j, none⟩ = some u := by
 rcases h.row with h0 | h1
 ·omega
 ·exact h1

theorem Sl.cut (h : Sl ok w size a n cap xs) (lo hi : Nat) (h1 : lo ≤ hi) (h2 : hi ≤ n) : Sl ok w size (if cap = lo then a else a.map (·.add (lo * size))) (hi - lo) (cap - lo) ((xs.drop (lo * size)).take ((hi - lo) * size)) := by
 refine ⟨?_, by have := h.le; omega, by have := h.max; omega, ?_⟩
 ·rw [zLW, List.length_drop, h.len, ← Nat.sub_mul]
  exact zLX (zLS _ (by omega))
 ·by_cases h0 : hi - lo = 0
  ·exact .inl h0
  ·obtain ⟨b, off, rfl, h4, h5⟩ := h.row.resolve_left (by omega)
   rw [if_neg (by have := h.le; omega)]
   refine .inr ⟨b, off + lo * size, by simp only [Option.map_some, Addr.add]; split <;> simp_all, h4, fun j u hj => ?_⟩
   rw [zLV] at hj
   split at hj
   ·rw [List.getElem?_drop] at hj
    rw [Nat.add_assoc]
    exact h5 _ u hj
   ·cases hj
theorem zB5 {P : Program} {t e : TypeId} {i : TypeInfo} (ht : P.underlying t = some (.slice e)) (hi : P.info? e = some i) (hsz : i.size = size) (a : Option Addr) (n cap : Nat) (k : IntKind) (h : Int) (h0 : 0 ≤ h) (h1 : h ≤ cap) (w : World) :
  (Instr.slice t (.slice a n cap) none (some (.int k h)) none).run P w = .ok (.slice (if cap = 0 then a else a.map (·.add (0 * size))) h.toNat cap) w := by
 subst hsz
 simp [Instr.slice, Instr.sliceBounds, run_underlying ht, sizeOf, typeInfo, hi, run_sliceBound, h0, h1]
theorem zC0 {P : Program} {t e : TypeId} {i : TypeInfo} (ht : P.underlying t = some (.slice e)) (hi : P.info? e = some i) (hsz : i.size = size) (a : Option Addr) (n cap : Nat) (k k' : IntKind) (lo h : Int) (h0 : 0 ≤ lo) (h1 : lo ≤ h) (h2 : h ≤ cap) (w : World) :
  (Instr.slice t (.slice a n cap) (some (.int k lo)) (some (.int k' h)) none).run P w = .ok (.slice (if cap = lo.toNat then a else a.map (·.add (lo.toNat * size))) (h.toNat - lo.toNat) (cap - lo.toNat)) w := by
 subst hsz
 have h3 : 0 ≤ h := by omega
 have h4 : lo ≤ (h.toNat : Int) := by omega
 simp [Instr.slice, Instr.sliceBounds, run_underlying ht, sizeOf, typeInfo, hi, run_sliceBound, h2, h3]
 rw [run_sliceBound _ _ _ _ _ h0 h4]
 rfl
theorem Sl.upto {P : Program} {t e : TypeId} {i : TypeInfo} (ht : P.underlying t = some (.slice e)) (hi : P.info? e = some i) (hsz : i.size = size) (h : Sl ok w size a n cap xs) (k : IntKind) (hh : Int) (h0 : 0 ≤ hh) (h1 : hh ≤ n) :
  ∃ a', (∀ w', (Instr.slice t (.slice a n cap) none (some (.int k hh)) none).run P w' = .ok (.slice a' hh.toNat cap) w') ∧ Sl ok w size a' hh.toNat cap (xs.take (hh.toNat * size)) := by
 refine ⟨_, zB5 ht hi hsz a n cap k hh h0 (by have := h.le; omega), ?_⟩
 have := h.cut 0 hh.toNat (zLZ _) (by omega)
 simp only [Nat.zero_mul, List.drop_zero, Nat.sub_zero] at this ⊢
 exact this
theorem Sl.part {P : Program} {t e : TypeId} {i : TypeInfo} (ht : P.underlying t = some (.slice e)) (hi : P.info? e = some i) (hsz : i.size = size) (h : Sl ok w size a n cap xs) (k k' : IntKind) (lo hh : Int) (h0 : 0 ≤ lo) (h1 : lo ≤ hh) (h2 : hh ≤ n) :
  ∃ a', (∀ w', (Instr.slice t (.slice a n cap) (some (.int k lo)) (some (.int k' hh)) none).run P w' = .ok (.slice a' (hh.toNat - lo.toNat) (cap - lo.toNat)) w') ∧ Sl ok w size a' (hh.toNat - lo.toNat) (cap - lo.toNat) ((xs.drop (lo.toNat * size)).take ((hh.toNat - lo.toNat) * size)) :=
 ⟨_, zC0 ht hi hsz a n cap k k' lo hh h0 h1 (by have := h.le; omega), h.cut lo.toNat hh.toNat (by omega) (by omega)⟩

theorem Sl.src {P : Program} {tx e' : TypeId} (hk : P.underlying tx = some (.slice e')) (h : Sl ok w size a n cap xs) (h1 : ∀ u ∈ xs, u.oneCell' = true) : Src P size tx (.slice a n cap) n xs w := by
 rcases h.row with h0 | ⟨b, off, rfl, _, hc⟩
 ·subst h0
  have hx : xs = [] := zLP (by simpa using h.len)
  subst hx
  refine ⟨.inl ⟨e', hk⟩, fun _ => rfl, ?_, ?_, by simp, fun _ h => by cases h⟩ <;> cases a <;> simp [Builtin.firstCells, loadCells, loadCellsFrom]
 ·refine Src.ofSlice w hk _ n cap xs h.len (fun j u hj => ?_) h1
  have := hc j u hj
  unfold Addr.add
  split
  ·rename_i h0; subst h0; simpa using this
  ·simpa using this

theorem jL {P : Program} (t tx ty : TypeId) (i : TypeInfo) (z : Value) (bytes : Nat) (ht : P.underlying t = some (.slice e)) (hi : P.info? e = some i) (hz : i.zero = some z) (hsize : i.size = size) (hby : i.bytes = bytes) (hzs : z.cells.size = size)
  (h : Own B w e size a n cap xs) (x : Value) (m : Nat) (news : List Value) (hs : Src P size tx x m news w) (h63 : n + m ≤ maxLen) (hbytes : (n + m) * bytes ≤ 140737488355328) (hB : B ≤ w.heap.size) :
  ∃ a' cap' w', (Builtin.append_ #[t, tx] ty #[.slice a n cap, x]).run P w = .ok (.slice a' (n + m) cap') w' ∧ Own B w' e size a' (n + m) cap' (xs ++ news) ∧ Chg (fun k => blk a k ∧ B ≤ k ∧ 0 < cap) w w' ∧ (∀ k, blk a' k → blk a k ∨ w.heap.size ≤ k) ∧ (n + m = 0 → w' = w ∧ a' = a ∧ cap' = cap) := by
 subst hsize
 subst hby
 have hsmall : n + m ≤ 9223372036854775807 := by simp only [maxLen] at h63; omega
 have hL : (xs ++ news).length = (n + m) * i.size := by rw [zL1, h.len, hs.newsLen, zL3]
 by_cases hroom : n + m ≤ cap
 ·rcases h.row with h0 | ⟨g, cur, rfl, hBg, hg, hcs, htk⟩
  ·have hn0 : n = 0 := by omega
   have hm0 : m = 0 := by omega
   subst hn0; subst hm0; subst h0
   have hx : xs = [] := zLP (by simpa using h.len)
   have hnw : news = [] := zLP (by simpa using hs.newsLen)
   subst hx; subst hnw
   exact ⟨a, 0, w, run_append_nothing w t tx ty e i ht hi a 0 0 (zLR _) x hs, Own.bare _ _ _ _ _, Chg.refl _ _, fun k h0 => .inl h0, fun _ => ⟨rfl, rfl, rfl⟩⟩
  ·have hfit : n * i.size + news.length ≤ cur.size := by rw [hs.newsLen, hcs, ← zL3]; exact zLS _ hroom
   have hst := run_storeCells_at P g (n * i.size) e news 0 cur w hg (by simpa using hfit) hs.one
   simp only [Nat.add_zero] at hst
   by_cases hz0 : n + m = 0
   ·have hn0 : n = 0 := by omega
    have hm0 : m = 0 := by omega
    subst hn0; subst hm0
    have hx : xs = [] := zLP (by simpa using h.len)
    have hnw : news = [] := zLP (by simpa using hs.newsLen)
    subst hx; subst hnw
    exact ⟨_, cap, w, run_append_nothing w t tx ty e i ht hi _ 0 cap (zLZ _) x hs, h, Chg.refl _ _, fun k hk => .inl hk, fun _ => ⟨rfl, rfl, rfl⟩⟩
   refine ⟨some ⟨g, 0, none⟩, cap, w.setRow g (cur.toList.take (n * i.size) ++ news ++ cur.toList.drop (n * i.size + news.length)).toArray, ?_, ⟨hL, hroom, h.max, .inr ⟨g, _, rfl, hBg, setRow_heap w g cur _ e _ hg, ?_, ?_⟩⟩, ⟨rfl, rfl, rfl, by simp [World.setRow], fun k _ hk => setRow_other w g k _ (fun e' => hk (by subst e'; exact ⟨⟨_, _, rfl⟩, hBg, by omega⟩))⟩, fun k hk => .inl hk, fun h0 => absurd h0 hz0⟩
   ·rcases hs.kind with ⟨e', hk⟩ | hk <;> simp [Builtin.append_, run_underlying ht, run_underlying hk, sizeOf, typeInfo, hi, hs.len, hroom, hs.cells, Addr.add_lit, hst]
   ·simp only [zL2, zL1, zLW, List.length_drop, zLY]
    omega
   ·rw [htk, ← hL]
    exact List.take_left
 ·have hold : (Builtin.firstCells i.size n (.slice a n cap)).run P w.drew = .ok xs.toArray w.drew := by
   have hsl := (h.sl (w := w)).drew
   rcases hsl.row with h0 | ⟨b, off, rfl, _, hc⟩
   ·subst h0
    have hx : xs = [] := zLP (by simpa using h.len)
    subst hx
    cases a <;> simp [Builtin.firstCells, loadCells, loadCellsFrom]
   ·refine run_firstCells_some w.drew i.size n ⟨b, off, none⟩ n cap xs h.len (fun j u hj => ?_)
    have := hc j u hj
    unfold Addr.add
    split
    ·rename_i h0; subst h0; simpa using this
    ·simpa using this
  have hg : cap < n + m := by omega
  have hrun := run_append_grow_src (P := P) w t tx ty e i z ht hi hz a n cap xs hold x m news hs hg (by omega) (growslice_fits hg hbytes)
  have hge := grownCap_ge w (n + m) cap e
  have hcm := grownCap_le_maxLen w (n + m) cap e h63
  refine ⟨_, _, _, hrun, ⟨hL, hge, hcm, .inr ⟨_, _, rfl, hB, heap_alloc_new w.drew _, ?_, ?_⟩⟩, ((Chg.refl _ w).drew).alloc _, fun k hk => .inr ?_, fun h0 => by omega⟩
  ·simp only [Array.size_append, zL2, size_zeroCells, hzs, hL, ← zL3]
   congr 1
   omega
  ·simp only [Array.toList_append]
   rw [← hL]
   exact List.take_left
  ·obtain ⟨o, s, e'⟩ := hk
   cases e'
   exact zLR _

theorem zI {P : Program} {ops : Array Oper} {rest : List Oper} {o : Oper} {ac : Act} {Q : Exit → Act → World → Prop} (hgd : o.guard = none) (s x : Operand) (t tx : TypeId)
  (ho : o.op = .call { callee := .builtin .append, args := #[s, x], argTypes := #[t, tx] })
  (i : TypeInfo) (z : Value) (bytes : Nat) (ht : P.underlying t = some (.slice e)) (hi : P.info? e = some i) (hz : i.zero = some z) (hsize : i.size = size) (hby : i.bytes = bytes) (hzs : z.cells.size = size)
  (hsv : ac.eval s = .slice a n cap) (h : Own B w e size a n cap xs) (v : Value) (hxv : ac.eval x = v) (m : Nat) (news : List Value) (hs : Src P size tx v m news w) (h63 : n + m ≤ maxLen) (hbytes : (n + m) * bytes ≤ 140737488355328) (hB : B ≤ w.heap.size)
  (hK : ∀ a' cap' w', Own B w' e size a' (n + m) cap' (xs ++ news) → Chg (fun k => blk a k ∧ B ≤ k ∧ 0 < cap) w w' → (∀ k, blk a' k → blk a k ∨ w.heap.size ≤ k) → wpList P ops Q rest (ac.put o.dst (.slice a' (n + m) cap')) w') : wpList P ops Q (o :: rest) ac w := by
 refine wpList_plain hgd fun K hKK => ?_
 obtain ⟨a', cap', w', hr, h2, h3, h4, _⟩ := jL (P := P) t tx o.type i z bytes ht hi hz hsize hby hzs h v m news hs h63 hbytes hB
 unfold Oper.wp execOp
 simp only [ho, resolve, invoke, builtin, Sem.run_bind, Sem.run_pure, Result.andThen_ok, List.map_toArray, List.map_cons, List.map_nil, hsv, hxv, hr]
 exact hKK _ _ (hK a' cap' w' h2 h3 h4)
theorem zP {P : Program} {tx e' : TypeId} (hk : P.underlying tx = some (.slice e')) (w : World) (cur : Array Value) (t : TypeId) (n size : Nat) (hs : cur.size = n * size) (h1 : ∀ u ∈ cur.toList, u.oneCell' = true) :
  Src P size tx (.slice (some ⟨w.heap.size, 0, none⟩) n n) n cur.toList (w.alloc (.cells cur t)) := by
 refine Src.ofSlice _ hk _ n n _ (by simpa using hs) (fun j u hj => ?_) h1
 have : (⟨w.heap.size, 0, none⟩ : Addr).add j = ⟨w.heap.size, j, none⟩ := by unfold Addr.add; split <;> simp_all
 rw [this, cell_of_row _ _ j cur t (0, 0) (heap_alloc_new w _)]
 simpa using hj
theorem zCj {P : Program} {tx e' : TypeId} (hk : P.underlying tx = some (.slice e')) (w : World) (u : Value) (t : TypeId) (h1 : u.oneCell' = true) :
  Src P 1 tx (.slice (some ⟨w.heap.size, 0, none⟩) 1 1) 1 [u] (w.alloc (.cells #[u] t)) :=
 zP hk w #[u] t 1 1 rfl (by simpa using h1)
theorem Own.ofOwns {B : Nat} {w : World} {e : TypeId} {size g n cap : Nat} {xs : List Value} (h : w.ownsRow B e size (.slice (some ⟨g, 0, none⟩) n cap) n xs) : Own B w e size (some ⟨g, 0, none⟩) n cap xs := by
 obtain ⟨h1, h2⟩ := h
 rcases h2 with ⟨h3, _⟩ | ⟨g', cap', cur, hv, hB, hg, hn, hm, hs, ht⟩
 ·cases h3
 ·cases hv
  exact ⟨h1, hn, hm, .inr ⟨_, cur, rfl, hB, hg, hs, ht⟩⟩
theorem Chg.ofGrown {w w' : World} (h : w.grownBy w' none) : Chg (fun _ => False) w w' :=
 ⟨h.os, h.tape, h.output, h.size, fun k hk _ => h.block k hk (by simp)⟩
theorem zAw {P : Program} {w : World} {ops : Array Oper} {rest : List Oper} {o : Oper} {a : Act} {Q : Exit → Act → World → Prop}
  (hg : o.guard = none) (l c : Operand) (t : TypeId) (hop : o.op = Op.makeSlice t l c)
  (B : Nat) (e : TypeId) (i : TypeInfo) (z : Value) (size : Nat) (h1 : P.underlying t = some (.slice e)) (h2 : P.info? e = some i) (h3 : i.zero = some z) (h4 : i.size = size)
  (kl kc : IntKind) (L C : Int) (n : Nat) (hl : a.eval l = .int kl L) (hc : a.eval c = .int kc C) (hL : L = (n : Int)) (hC : C = (n : Int)) (b2 : i.bytes * n ≤ 281474976710656) (b3 : n ≤ maxLen) (b4 : B ≤ w.heap.size)
  (hK : ∀ w', Own B w' e size (some ⟨w.heap.size, 0, none⟩) n n (madeCells z.cells (n * size)).toList → Chg (fun _ => False) w w' → wpList P ops Q rest (a.put o.dst (.slice (some ⟨w.heap.size, 0, none⟩) n n)) w') :
  wpList P ops Q (o :: rest) a w :=
 wpList_make_full w hg l c t hop B e i z size h1 h2 h3 h4 kl kc L C n hl hc hL hC b2 b3 b4 fun w' r1 r2 => hK w' (Own.ofOwns r1) (Chg.ofGrown r2)
end

section
variable {P : Program} {a : Act} {w : World} {Q : Exit → Act → World → Prop}
end
theorem pA {α : Type} (xs : List α) (i : Nat) (a : α) : xs.toArray.setIfInBounds i a = (xs.set i a).toArray := List.setIfInBounds_toArray ..
theorem pB {α : Type} (x a : α) (xs : List α) : (x :: xs).set 0 a = a :: xs := rfl
theorem pC {α : Type} (x a : α) (xs : List α) (n : Nat) : (x :: xs).set (n + 1) a = x :: xs.set n a := rfl
theorem pD : (∀ (a : Act) (d : Option Tmp) (v : Value), a.put d v = match d with | some d => { a with tmps := a.tmps.setIfInBounds d v } | none => a) ∧ (∀ {α : Type} (xs : List α) (i : Nat) (a : α), xs.toArray.setIfInBounds i a = (xs.set i a).toArray) ∧ (∀ {α : Type} (x a : α) (xs : List α), (x :: xs).set 0 a = a :: xs) ∧ (∀ {α : Type} (x a : α) (xs : List α) (n : Nat), (x :: xs).set (n + 1) a = x :: xs.set n a) := ⟨fun _ _ _ => rfl, pA, pB, pC⟩
theorem pG : (∀ {α : Type} (xs : List α) (i : Nat), xs.toArray[i]? = xs[i]?) ∧ (∀ {α : Type} (x : α) (xs : List α), (x :: xs)[0]? = some x) ∧ (∀ {α : Type} (x : α) (xs : List α) (i : Nat), (x :: xs)[i + 1]? = xs[i]?) := ⟨fun _ _ => List.getElem?_toArray .., fun _ _ => List.getElem?_cons_zero .., fun _ _ _ => List.getElem?_cons_succ ..⟩
theorem zH {p : Prop} (h : p) : Hid p := Lib.hid h

theorem zDH (a n : Int) (hn : 0 < n) : (a.tmod n < 0 → a.tmod n + n = a % n) ∧ (0 ≤ a.tmod n → a.tmod n = a % n) := by
 rw [Int.tmod_eq_emod]
 have h1 := Int.emod_nonneg a (Int.ne_of_gt hn)
 have h2 := Int.emod_lt_of_pos a hn
 have h3 : (n.natAbs : Int) = n := by omega
 constructor
 ·intro h; split at h <;> split <;> omega
 ·intro h; split at h <;> split <;> omega
open Go.ChangeShapes Go.WideShapes Go.ChangeAt Go.RowKit
def zLh (k : IntKind) (zs : List Int) : List Value := zs.map (Value.int k)
section
variable {H : Type} {enc : TypeId × Value → H} {P : Program} {w : World}
theorem zH2 {t e : TypeId} {k : IntKind} {a : Option Addr} {n cap : Nat} {d : DataW H} {p : List MemPlace} (ht : P.underlying t = some (.slice e)) (he : P.underlying e = some (.int k)) (hc : P.cellsOf e = 1)
  (h : DataW.Trod enc P w 0 (fun _ => true) true t (Value.slice a n cap) d p) : ∃ zs, Sl (fun b => b < w.heap.size) w 1 a n cap (zLh k zs) ∧ ∀ z ∈ zs, (Lit.int k z).wf = true := by
 obtain ⟨fuel, hf⟩ := h
 rcases open_ints ht he hc hf with ⟨hcs, _⟩ | ⟨x, l, c, zs, hcs, _, hl, hm, hz, _, hcell, hwz⟩
 ·simp [Value.cells] at hcs
  obtain ⟨rfl, rfl, rfl⟩ := hcs
  exact ⟨[], Sl.nil _ _ _ _, fun _ h => by cases h⟩
 ·simp [Value.cells] at hcs
  obtain ⟨rfl, rfl, rfl⟩ := hcs
  have hz' : zs.length = cap := by simpa using hz
  refine ⟨zs.take n, ⟨?_, hl, hm, ?_⟩, fun z h => hwz z (List.mem_of_mem_take h)⟩
  ·simp [zLh]; omega
  ·by_cases h0 : n = 0
   ·exact .inl h0
   ·obtain ⟨b, off, rfl, hcc⟩ := ints_at hcell (by omega)
    refine .inr ⟨b, off, rfl, ?_, fun j u hj => ?_⟩
    ·exact World.block_lt_of_cell? w _ (hcc 0 (by omega))
    ·simp only [zLh, List.map_take, zLV] at hj
     split at hj
     ·rename_i hjn
      have := hcc j (by omega)
      rw [this]
      simp [List.getElem?_map] at hj
      obtain ⟨z, hz1, rfl⟩ := hj
      simp [List.getD, hz1]
     ·cases hj
end
theorem zEW {P : Program} {w : World} {ops : Array Oper} {rest : List Oper} {o : Oper} {ac : Act} {Q : Exit → Act → World → Prop} {e : TypeId} {size : Nat} {a : Option Addr} {B : Nat} (hgd : o.guard = none) (s x : Operand) (t tx : TypeId)
  (ho : o.op = .call { callee := .builtin .append, args := #[s, x], argTypes := #[t, tx] })
  (i : TypeInfo) (z : Value) (bytes : Nat) (ht : P.underlying t = some (.slice e)) (hi : P.info? e = some i) (hz : i.zero = some z) (hsize : i.size = size) (hby : i.bytes = bytes) (hzs : z.cells.size = size)
  (hsv : ac.eval s = .slice a 0 0) (v : Value) (hxv : ac.eval x = v) (m : Nat) (news : List Value) (hs : Src P size tx v m news w) (h63 : m ≤ maxLen) (hbytes : m * bytes ≤ 140737488355328) (hB : B ≤ w.heap.size)
  (hK : ∀ a' cap' w', Own B w' e size a' m cap' news → Below w.heap.size w w' → (∀ k, blk a' k → blk a k ∨ w.heap.size ≤ k) → wpList P ops Q rest (ac.put o.dst (.slice a' m cap')) w') : wpList P ops Q (o :: rest) ac w := by
 refine zI (B := B) hgd s x t tx ho i z bytes ht hi hz hsize hby hzs hsv (Own.bare _ _ _ _ _) v hxv m news hs (by simpa using h63) (by simpa using hbytes) hB ?_
 intro a' cap' w' h1 h2 h3
 have := hK a' cap' w' (by simpa using h1) (h2.below (zLR _) (fun _ _ h => by omega)) h3
 simpa using this
theorem zN {P : Program} {w : World} {ops : Array Oper} {o : Oper} {ac : Act} {K : Act → World → Prop} {Q : Exit → Act → World → Prop} {E : Prop} {e : TypeId} {size : Nat} {a : Option Addr} {n cap B : Nat} {xs : List Value} (hgd : o.guard = none) (s x : Operand) (t tx : TypeId)
  (ho : o.op = .call { callee := .builtin .append, args := #[s, x], argTypes := #[t, tx] })
  (i : TypeInfo) (z : Value) (bytes : Nat) (ht : P.underlying t = some (.slice e)) (hi : P.info? e = some i) (hz : i.zero = some z) (hsize : i.size = size) (hby : i.bytes = bytes) (hzs : z.cells.size = size)
  (hsv : ac.eval s = .slice a n cap) (h : Own B w e size a n cap xs) (v : Value) (hxv : ac.eval x = v) (m : Nat) (news : List Value) (hs : Src P size tx v m news w) (h63 : n + m ≤ maxLen) (hbytes : (n + m) * bytes ≤ 140737488355328) (hB : B ≤ w.heap.size)
  (hK : ∀ a' cap' w', Own B w' e size a' (n + m) cap' (xs ++ news) → Chg (fun k => blk a k ∧ B ≤ k ∧ 0 < cap) w w' → (∀ k, blk a' k → blk a k ∨ w.heap.size ≤ k) → K (ac.put o.dst (.slice a' (n + m) cap')) w') :
  if Region.wanted o (yielded ops ac.tmps) = true then Oper.wp P o ac w K Q else E := by
 have hw : Region.wanted o (yielded ops ac.tmps) = true := by simp [Region.wanted, hgd]
 rw [if_pos hw]
 obtain ⟨a', cap', w', hr, h2, h3, h4, _⟩ := jL (P := P) t tx o.type i z bytes ht hi hz hsize hby hzs h v m news hs h63 hbytes hB
 unfold Oper.wp execOp
 simp only [ho, resolve, invoke, builtin, Sem.run_bind, Sem.run_pure, Result.andThen_ok, List.map_toArray, List.map_cons, List.map_nil, hsv, hxv, hr]
 exact hK a' cap' w' h2 h3 h4
theorem ba {w0 w : World} (h : Below w0.heap.size w0 w) (o : Obj) : Below w0.heap.size w0 (w.alloc o) := h.alloc h.size o
theorem bt {w0 w w' : World} (h : Below w0.heap.size w0 w) (k : Below w.heap.size w w') : Below w0.heap.size w0 w' := h.trans (k.mono h.size)
theorem Own.below {B : Nat} {w w' : World} {e : TypeId} {size : Nat} {a : Option Addr} {n cap : Nat} {xs : List Value} (h : Own B w e size a n cap xs) (hb : Below w.heap.size w w') : Own B w' e size a n cap xs := by
 refine ⟨h.len, h.le, h.max, h.row.imp id ?_⟩
 rintro ⟨g, cur, rfl, hB, hg, hs, ht⟩
 exact ⟨g, cur, rfl, hB, (hb.block g (zLQ.1 hg).1).trans hg, hs, ht⟩
theorem Chg.bt {S : Nat → Prop} {w0 w w' : World} (h : Below w0.heap.size w0 w) (k : Chg S w w') (hS : ∀ i, i < w0.heap.size → ¬ S i) : Below w0.heap.size w0 w' :=
 ⟨k.os.trans h.os, k.tape.trans h.tape, k.output.trans h.output, zLT h.size k.size, fun i hi => (k.block i (zLU hi h.size) (hS i hi)).trans (h.block i hi)⟩
def Rw (w : World) (b : Nat) (cur : Array Value) (t : TypeId) : Prop := w.heap[b]? = some (.cells cur t (0, 0))
theorem Rw.cell {w : World} {b : Nat} {cur : Array Value} {t : TypeId} (h : Rw w b cur t) (j : Nat) : w.cell? ⟨b, j, none⟩ = cur[j]? := cell_of_row w b j cur t (0, 0) h
theorem Rw.frozen {w : World} {b : Nat} {cur : Array Value} {t : TypeId} (h : Rw w b cur t) (j : Nat) : w.frozen? ⟨b, j, none⟩ = false := by
 have h' : w.heap[b]? = some (.cells cur t (0, 0)) := h
 simp [World.frozen?, h']
theorem Rw.lt {w : World} {b : Nat} {cur : Array Value} {t : TypeId} (h : Rw w b cur t) : b < w.heap.size := (zLQ.1 h).1
theorem Rw.below {w w' : World} {b : Nat} {cur : Array Value} {t : TypeId} (h : Rw w b cur t) (hb : Below w.heap.size w w') : Rw w' b cur t := (hb.block b h.lt).trans h
theorem Rw.alloc {w : World} {b : Nat} {cur : Array Value} {t : TypeId} (h : Rw w b cur t) (o : Obj) : Rw (w.alloc o) b cur t := h.below ((Below.refl _ _).alloc (zLR _) o)
theorem Rw.drew {w : World} {b : Nat} {cur : Array Value} {t : TypeId} (h : Rw w b cur t) : Rw w.drew b cur t := h
theorem Rw.new (w : World) (cur : Array Value) (t : TypeId) : Rw (w.alloc (.cells cur t)) w.heap.size cur t := heap_alloc_new w _
theorem Rw.new' {w : World} {b : Nat} {cur : Array Value} {t : TypeId} (hb : w.heap.size = b) : Rw (w.alloc (.cells cur t)) b cur t := by subst hb; exact Rw.new w cur t
theorem Rw.other {w : World} {b : Nat} {cur : Array Value} {t : TypeId} (h : Rw w b cur t) {p : Addr} (hp : b ≠ p.block) (u : Value) : Rw (w.setCell p u) b cur t := (Below.heap_setCell w p u b hp).trans h
theorem Rw.set {w : World} {b : Nat} {cur : Array Value} {t : TypeId} (h : Rw w b cur t) (j : Nat) (u : Value) : Rw (w.setCell ⟨b, j, none⟩ u) b (cur.setIfInBounds j u) t := by
 have h' : w.heap[b]? = some (.cells cur t (0, 0)) := h
 show (w.setCell ⟨b, j, none⟩ u).heap[b]? = _
 simp [World.setCell, zL0, h']
theorem Rw.chg {S : Nat → Prop} {w w' : World} {b : Nat} {cur : Array Value} {t : TypeId} (h : Rw w b cur t) (hc : Chg S w w') (hn : ¬ S b) : Rw w' b cur t := (hc.block b h.lt hn).trans h
theorem yP {P : Program} {tx e' : TypeId} (hk : P.underlying tx = some (.slice e')) {w : World} {b : Nat} {cur : Array Value} {t : TypeId} (h : Rw w b cur t) (n size : Nat) (hs : cur.size = n * size) (h1 : ∀ u ∈ cur.toList, u.oneCell' = true) :
  Src P size tx (.slice (some ⟨b, 0, none⟩) n n) n cur.toList w := by
 refine Src.ofSlice _ hk _ n n _ (by simpa using hs) (fun j u hj => ?_) h1
 have : (⟨b, 0, none⟩ : Addr).add j = ⟨b, j, none⟩ := by unfold Addr.add; split <;> simp_all
 rw [this, h.cell]
 simpa using hj
theorem xN {K : Act → World → Prop} {a : Act} {W : World} (h : ∀ W', W' = W → K a W') : K a W := h W rfl
theorem Rw.fresh {B : Nat} {w W : World} (_ : Below B w W) (cur : Array Value) (t : TypeId) : Rw (W.alloc (.cells cur t)) W.heap.size cur t := Rw.new W cur t
theorem Rw.blt {B : Nat} {w W : World} (h : Below B w W) (hB : B ≤ w.heap.size) : B ≤ W.heap.size := zLT hB h.size
theorem Rw.ren {W X : World} {b : Nat} {cur : Array Value} {t : TypeId} (hW : W = X) (h : Rw X b cur t) : Rw W b cur t := hW ▸ h
theorem Below.ren {W X w : World} {B : Nat} (hW : W = X) (h : Below B w X) : Below B w W := hW ▸ h
end Go.Shr
