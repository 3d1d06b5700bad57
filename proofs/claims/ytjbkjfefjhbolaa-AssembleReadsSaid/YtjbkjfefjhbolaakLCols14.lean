import Derived.Test.YtjbkjfefjhbolaakOwn14
import Derived.Laws.StructEq
set_option linter.all false
open And renaming intro → zLP
open Nat renaming le_trans → zLQ, add_assoc → zLV, zero_le → zLW
open List renaming take_of_length_le → zLR, take_succ_eq_append_getElem → zLS, take_length → zLT, mem_cons → zLU
namespace Go.Proofs.Ytjbkjfefjhbolaa
open Go.RowKit Go.Shr
structure Cl where
 r : List Int
 d : List Int
 v : List Vc
theorem Cl.ext' {x y : Cl} (h1 : x.r = y.r) (h2 : x.d = y.d) (h3 : x.v = y.v) : x = y := by cases x; cases y; simp_all
def clC (C : List Cel) : Cl := ⟨C.map fun c => (c.r : Int), C.map fun c => (c.d : Int), zV C⟩
theorem zKA (C : List Cel) : zQ (clC C).r = zB3 C := by simp [clC, zQ, zB3]
theorem zKB (C : List Cel) : zQ (clC C).d = zBO C := by simp [clC, zQ, zBO]
structure zBi (ok : Nat → Prop) (w : World) (c : Cl) (a0 : Option Addr) (c0 : Nat) (a1 : Option Addr) (c1 : Nat) (a2 : Option Addr) (c2 : Nat) : Prop where
 r : Sl ok w 1 a0 c.r.length c0 (zQ c.r)
 d : Sl ok w 1 a1 c.d.length c1 (zQ c.d)
 v : Sl ok w 2 a2 c.v.length c2 (vcs c.v)
theorem zBi.go {ok ok' S : Nat → Prop} {w w' : World} {c : Cl} {a0 a1 a2 : Option Addr} {c0 c1 c2 : Nat} (h : zBi ok w c a0 c0 a1 c1 a2 c2) (hc : Chg S w w') (hn : ∀ k, k < w.heap.size → ok k → ¬ S k ∧ ok' k) : zBi ok' w' c a0 c0 a1 c1 a2 c2 :=
 ⟨h.r.go hc hn (by decide), h.d.go hc hn (by decide), h.v.go hc hn (by decide)⟩
theorem zBi.below {w w' : World} {c : Cl} {a0 a1 a2 : Option Addr} {c0 c1 c2 : Nat} (h : zBi (fun b => b < w.heap.size) w c a0 c0 a1 c1 a2 c2) (hb : Below w.heap.size w w') : zBi (fun b => b < w'.heap.size) w' c a0 c0 a1 c1 a2 c2 :=
 ⟨slb h.r hb, slb h.d hb, slb h.v hb⟩
def HdG (ok : Nat → Prop) (w : World) : List Cl → List Value → Prop
 | [], xs => xs = []
 | c :: r, xs => ∃ a0 c0 a1 c1 a2 c2 xr, xs = .slice a0 c.r.length c0 :: .slice a1 c.d.length c1 :: .slice a2 c.v.length c2 :: xr ∧ zBi ok w c a0 c0 a1 c1 a2 c2 ∧ HdG ok w r xr
theorem HdG.go {ok ok' S : Nat → Prop} {w w' : World} (hc : Chg S w w') (hn : ∀ k, k < w.heap.size → ok k → ¬ S k ∧ ok' k) : ∀ {L : List Cl} {xs : List Value}, HdG ok w L xs → HdG ok' w' L xs
 | [], xs, h => h
 | c :: r, xs, h => by
  obtain ⟨a0, c0, a1, c1, a2, c2, xr, h1, h2, h3⟩ := h
  exact ⟨a0, c0, a1, c1, a2, c2, xr, h1, h2.go hc hn, HdG.go hc hn h3⟩
theorem HdG.below {w w' : World} (hb : Below w.heap.size w w') : ∀ {L : List Cl} {xs : List Value}, HdG (fun b => b < w.heap.size) w L xs → HdG (fun b => b < w'.heap.size) w' L xs
 | [], xs, h => h
 | c :: r, xs, h => by
  obtain ⟨a0, c0, a1, c1, a2, c2, xr, h1, h2, h3⟩ := h
  exact ⟨a0, c0, a1, c1, a2, c2, xr, h1, h2.below hb, HdG.below hb h3⟩
theorem HdG.len {ok : Nat → Prop} {w : World} : ∀ {L : List Cl} {xs : List Value}, HdG ok w L xs → xs.length = L.length * 3
 | [], xs, h => by have h' : xs = [] := h; simp [h']
 | c :: r, xs, h => by
  obtain ⟨a0, c0, a1, c1, a2, c2, xr, rfl, _, h3⟩ := h
  have := h3.len
  simp only [List.length_cons]; omega
theorem HdG.get {ok : Nat → Prop} {w : World} : ∀ {L : List Cl} {xs : List Value} (_ : HdG ok w L xs) (k : Nat) (hk : k < L.length),
  ∃ a0 c0 a1 c1 a2 c2, xs[k * 3]? = some (.slice a0 L[k].r.length c0) ∧ xs[k * 3 + 1]? = some (.slice a1 L[k].d.length c1) ∧ xs[k * 3 + 2]? = some (.slice a2 L[k].v.length c2) ∧ zBi ok w L[k] a0 c0 a1 c1 a2 c2
 | c :: r, xs, h, 0, _ => by
  obtain ⟨a0, c0, a1, c1, a2, c2, xr, rfl, h2, _⟩ := h
  exact ⟨a0, c0, a1, c1, a2, c2, rfl, rfl, rfl, h2⟩
 | c :: r, xs, h, k + 1, hk => by
  obtain ⟨a0, c0, a1, c1, a2, c2, xr, rfl, _, h3⟩ := h
  rw [show (k + 1) * 3 = k * 3 + 1 + 1 + 1 by omega]
  simpa using HdG.get h3 k (by simpa using hk)
theorem HdG.of {ok : Nat → Prop} {w : World} : ∀ {L : List Cl} {xs : List Value} (_ : xs.length = L.length * 3) (_ : ∀ (k : Nat) (hk : k < L.length), ∃ a0 c0 a1 c1 a2 c2, xs[k * 3]? = some (.slice a0 L[k].r.length c0) ∧ xs[k * 3 + 1]? = some (.slice a1 L[k].d.length c1) ∧ xs[k * 3 + 2]? = some (.slice a2 L[k].v.length c2) ∧ zBi ok w L[k] a0 c0 a1 c1 a2 c2), HdG ok w L xs
 | [], xs, h, _ => List.eq_nil_of_length_eq_zero (by simpa using h)
 | c :: r, xs, h, hk => by
  obtain ⟨a0, c0, a1, c1, a2, c2, h0, h1, h2, h3⟩ := hk 0 (by simp)
  match xs, h with
  | x0 :: x1 :: x2 :: xr, h =>
   simp at h0 h1 h2
   refine ⟨a0, c0, a1, c1, a2, c2, xr, by rw [h0, h1, h2], h3, HdG.of (by simp at h; omega) (fun k hk' => ?_)⟩
   have := hk (k + 1) (by simpa using hk')
   rw [show (k + 1) * 3 = k * 3 + 1 + 1 + 1 by omega] at this
   simpa using this
  | [], h => simp at h
  | [_], h => simp at h; omega
  | [_, _], h => simp at h; omega
theorem HdG.one {ok : Nat → Prop} {w : World} : ∀ {L : List Cl} {xs : List Value}, HdG ok w L xs → ∀ u ∈ xs, u.oneCell' = true
 | [], xs, h, u, hu => by have h' : xs = [] := h; subst h'; cases hu
 | c :: r, xs, h, u, hu => by
  obtain ⟨a0, c0, a1, c1, a2, c2, xr, rfl, _, h3⟩ := h
  rcases zLU.1 hu with rfl | hu
  ·rfl
  rcases zLU.1 hu with rfl | hu
  ·rfl
  rcases zLU.1 hu with rfl | hu
  ·rfl
  exact HdG.one h3 u hu
theorem HdG.snoc {ok : Nat → Prop} {w : World} {c : Cl} {a0 a1 a2 : Option Addr} {c0 c1 c2 : Nat} (hc : zBi ok w c a0 c0 a1 c1 a2 c2) : ∀ {L : List Cl} {xs : List Value}, HdG ok w L xs → HdG ok w (L ++ [c]) (xs ++ [.slice a0 c.r.length c0, .slice a1 c.d.length c1, .slice a2 c.v.length c2])
 | [], xs, h => by have h' : xs = [] := h; subst h'; exact ⟨a0, c0, a1, c1, a2, c2, [], rfl, hc, rfl⟩
 | d :: r, xs, h => by
  obtain ⟨b0, d0, b1, d1, b2, d2, xr, rfl, h2, h3⟩ := h
  exact ⟨b0, d0, b1, d1, b2, d2, _, rfl, h2, HdG.snoc hc h3⟩
structure xE (w : World) (a : Option Addr) (n cap : Nat) (L : List Cl) (xs : List Value) : Prop where
 sl : Sl (fun b => b < w.heap.size) w 3 a n cap xs
 hd : HdG (fun b => b < w.heap.size) w L xs
theorem xE.n {w : World} {a : Option Addr} {n cap : Nat} {L : List Cl} {xs : List Value} (h : xE w a n cap L xs) : n = L.length := by have h1 := h.sl.len; have h2 := h.hd.len; omega
theorem xE.below {w w' : World} {a : Option Addr} {n cap : Nat} {L : List Cl} {xs : List Value} (h : xE w a n cap L xs) (hb : Below w.heap.size w w') : xE w' a n cap L xs := ⟨slb h.sl hb, h.hd.below hb⟩
theorem xE.nil (w : World) (a : Option Addr) : xE w a 0 0 [] [] := ⟨Sl.nil _ _ _ _, rfl⟩
theorem xE.get {w : World} {a : Option Addr} {n cap : Nat} {L : List Cl} {xs : List Value} (h : xE w a n cap L xs) (k : Nat) (hk : k < L.length) :
  ∃ b o a0 c0 a1 c1 a2 c2, a = some ⟨b, o, none⟩ ∧ w.cell? ⟨b, o + k * 3, none⟩ = some (.slice a0 L[k].r.length c0) ∧ w.cell? ⟨b, o + k * 3 + 1, none⟩ = some (.slice a1 L[k].d.length c1) ∧ w.cell? ⟨b, o + k * 3 + 2, none⟩ = some (.slice a2 L[k].v.length c2) ∧ zBi (fun b => b < w.heap.size) w L[k] a0 c0 a1 c1 a2 c2 := by
 obtain ⟨b, o, rfl, _, hc⟩ := h.sl.pos (by have := h.n; omega)
 obtain ⟨a0, c0, a1, c1, a2, c2, h0, h1, h2, h3⟩ := h.hd.get k hk
 exact ⟨b, o, a0, c0, a1, c1, a2, c2, rfl, hc _ _ h0, by rw [zLV]; exact hc _ _ h1, by rw [zLV]; exact hc _ _ h2, h3⟩
def zG0 (m : Nat) (C : Nat → List Cel) : List Cl := (List.range m).map fun k => clC (C k)
theorem zAb (m : Nat) (C : Nat → List Cel) : (zG0 m C).length = m := by simp [zG0]
theorem jV {m : Nat} {C : Nat → List Cel} {k : Nat} (hk : k < (zG0 m C).length) : (zG0 m C)[k] = clC (C k) := by simp [zG0]
theorem CT.clAt {B : Nat} {w : World} {bc m : Nat} {C : Nat → List Cel} {cur : Array Value} {aa : Nat → Option Addr} {cc : Nat → Nat} (h : CT B w bc m C cur aa cc) {k : Nat} (hk : k < m) : zBi (fun b => b < w.heap.size) w (clC (C k)) (aa (k * 3)) (cc (k * 3)) (aa (k * 3 + 1)) (cc (k * 3 + 1)) (aa (k * 3 + 2)) (cc (k * 3 + 2)) := by
 have h0 := (OW.own0 h.ow hk).sl.mono (ok' := fun b => b < w.heap.size) (fun b hb _ => hb) (by decide)
 have h1 := (OW.own1 h.ow hk).sl.mono (ok' := fun b => b < w.heap.size) (fun b hb _ => hb) (by decide)
 have h2 := (OW.own2 h.ow hk).sl.mono (ok' := fun b => b < w.heap.size) (fun b hb _ => hb) (by decide)
 refine ⟨?_, ?_, h2⟩
 ·rw [zKA]; simpa [clC] using h0
 ·rw [zKB]; simpa [clC] using h1
theorem CT.cols {B : Nat} {w : World} {bc m : Nat} {C : Nat → List Cel} {cur : Array Value} {aa : Nat → Option Addr} {cc : Nat → Nat} (h : CT B w bc m C cur aa cc) (hm : m ≤ maxLen) : xE w (some ⟨bc, 0, none⟩) m m (zG0 m C) cur.toList := by
 refine ⟨⟨by simpa using h.size, Nat.le_refl _, hm, .inr ⟨bc, 0, rfl, h.row.lt, fun j u hj => by rw [Nat.zero_add, h.row.cell]; simpa using hj⟩⟩, HdG.of (by rw [zAb]; simpa using h.size) (fun k hk => ?_)⟩
 rw [zAb] at hk
 have h0 := h.hds (k * 3) (by omega); have h1 := h.hds (k * 3 + 1) (by omega); have h2 := h.hds (k * 3 + 2) (by omega)
 rw [(n0 C k).1] at h0; rw [(n1 C k).1] at h1; rw [(n2 C k).1] at h2
 refine ⟨_, _, _, _, _, _, ?_, ?_, ?_, by rw [jV]; exact h.clAt hk⟩
 ·rw [jV]; simpa [clC] using h0
 ·rw [jV]; simpa [clC] using h1
 ·rw [jV]; simpa [clC] using h2
theorem qL (L : List Vc) (k : Nat) (h : k < L.length) : (vcs L)[k * 2]? = some (.int .i64 L[k].n) ∧ (vcs L)[k * 2 + 1]? = some (.string L[k].s) := by
 induction L generalizing k with
 | nil => simp at h
 | cons x L ih =>
  cases k with
  | zero => simp [vcs]
  | succ k =>
   have := ih k (by simpa using h)
   rw [show (k + 1) * 2 = k * 2 + 1 + 1 by omega]
   simpa [vcs] using this
theorem qR {α : Type} {x y : List α} {k : Nat} (h : x.take k = y.take k) (hx : k < x.length) (hy : k < y.length) (e : x[k] = y[k]) : x.take (k + 1) = y.take (k + 1) := by
 rw [zLS hx, zLS hy, h, e]
theorem zJo {x y : Vc} (h1 : x.n = y.n) (h2 : x.s.toList = y.s.toList) : x = y := by
 obtain ⟨n, s⟩ := x; obtain ⟨m, u⟩ := y
 have h4 : s = u := by
  rw [ByteArray.toList_eq, ByteArray.toList_eq] at h2
  cases s; cases u; simp_all
 simp_all
set_option maxRecDepth 100000 in
theorem zHL (w : World) (n m : Int) (s u : ByteArray) : (Op.equalIn 10000 44 (.agg #[.int .i64 n, .string s]) (.agg #[.int .i64 m, .string u])).run Try.prog w = .ok ((n == m) && (s.toList == u.toList)) w := by
 have h0 : Try.prog.underlying 44 = some (.struct (Try.prog.fieldsOf 44)) := by unfold Program.fieldsOf; rw [Try.underlying44]
 rw [show (10000 : Nat) = 9999 + 1 from rfl, run_equalIn_agg _ _ _ _ _ h0 (by kernel_rfl)]
 have hf : (Try.prog.fieldsOf 44).toList = [⟨"N", 3, 0, false, "", "", 0⟩, ⟨"S", 9, 1, false, "", "", 8⟩] := by unfold Program.fieldsOf; rw [Try.underlying44]
 rw [hf]
 have h3 := Try.underlying3
 have h9 := Try.underlying9
 have e1 := run_equalIn_int (P := Try.prog) w 9998 3 .i64 .i64 n m h3
 have e2 := run_equalIn_string (P := Try.prog) w 9998 9 s u h9
 have p1 : (part 3 #[Value.int .i64 n, .string s] 0).run Try.prog w = .ok (.int .i64 n) w := by go_simp
 have p2 : (part 9 #[Value.int .i64 n, .string s] 1).run Try.prog w = .ok (.string s) w := by go_simp
 have p3 : (part 3 #[Value.int .i64 m, .string u] 0).run Try.prog w = .ok (.int .i64 m) w := by go_simp
 have p4 : (part 9 #[Value.int .i64 m, .string u] 1).run Try.prog w = .ok (.string u) w := by go_simp
 simp only [Op.eqFields, ne_eq, String.reduceEq, not_false_eq_true, if_true, Sem.run_bind, Result.andThen_ok, p1, p3, e1]
 cases hnm : (n == m) <;> cases hsu : (s.toList == u.toList) <;> simp [Sem.run_ite, e2, p2, p4, hsu]
theorem zC1 (w : World) (n m : Int) (s u : ByteArray) : (binOp .neq 44 (.agg #[.int .i64 n, .string s]) (.agg #[.int .i64 m, .string u])).run Try.prog w = .ok (.bool (!((n == m) && (s.toList == u.toList)))) w := by
 rw [run_neq_struct, zHL]; rfl
set_option maxHeartbeats 4000000 in
set_option maxRecDepth 100000 in
theorem zJS (x y : Cl) (a0 a1 a2 g0 g1 g2 : Option Addr) (c0 c1 c2 d0 d1 d2 : Nat) (w : World) (hx : zBi (fun b => b < w.heap.size) w x a0 c0 a1 c1 a2 c2) (hy : zBi (fun b => b < w.heap.size) w y g0 d0 g1 d1 g2 d2) :
  Calls Try.prog 20 #[.agg #[.slice a0 x.r.length c0, .slice a1 x.d.length c1, .slice a2 x.v.length c2], .agg #[.slice g0 y.r.length d0, .slice g1 y.d.length d1, .slice g2 y.v.length d2]] w fun e w' => ∃ b, e = .returned (.bool b) ∧ (b = true ↔ x = y) ∧ Below w.heap.size w w' := by
 have hm0 := zLQ hx.r.le hx.r.max; have hm1 := zLQ hx.d.le hx.d.max; have hm2 := zLQ hx.v.le hx.v.max
 have hm3 := zLQ hy.r.le hy.r.max; have hm4 := zLQ hy.d.le hy.d.max; have hm5 := zLQ hy.v.le hy.v.max
 unfold maxLen at hm0 hm1 hm2 hm3 hm4 hm5
 have HX := zH hx; have HY := zH hy
 clear hx hy
 go_enter Try.func20, Try.ntmps20
 go_upto_region 1 with fail
 refine zAC (fun w1 hw1 => ?_)
 have hb1 : Below w.heap.size w w1 := by rw [hw1]; exact ba (ba (b0 w) _) _
 have r2 : Rw w1 w.heap.size #[.slice a0 x.r.length c0, .slice a1 x.d.length c1, .slice a2 x.v.length c2] 42 := by rw [hw1]; exact (Rw.new w _ _).alloc _
 have r3 : Rw w1 (w.heap.size + 1) #[.slice g0 y.r.length d0, .slice g1 y.d.length d1, .slice g2 y.v.length d2] 42 := by rw [hw1]; exact Rw.new' (by simp)
 clear hw1
 obtain ⟨q3, hq3⟩ : ∃ b, b = w.heap.size + 1 := ⟨_, rfl⟩
 rw [← hq3] at r3 ⊢
 obtain ⟨q2, hq2⟩ : ∃ b, b = w.heap.size := ⟨_, rfl⟩
 rw [← hq2] at r2 ⊢
 have HB1 := zH (show Below w.heap.size w w1 from hb1)
 clear hq3 hb1
 try rw [← hq2]
 clear hq2
 have k0 : w1.cell? ⟨q2, 0, none⟩ = some (.slice a0 x.r.length c0) := r2.cell 0
 have k1 : w1.cell? ⟨q2, 1, none⟩ = some (.slice a1 x.d.length c1) := r2.cell 1
 have k2 : w1.cell? ⟨q2, 2, none⟩ = some (.slice a2 x.v.length c2) := r2.cell 2
 have k3 : w1.cell? ⟨q3, 0, none⟩ = some (.slice g0 y.r.length d0) := r3.cell 0
 have k4 : w1.cell? ⟨q3, 1, none⟩ = some (.slice g1 y.d.length d1) := r3.cell 1
 have k5 : w1.cell? ⟨q3, 2, none⟩ = some (.slice g2 y.v.length d2) := r3.cell 2
 have KX := zH (zLP k0 (zLP k1 (zLP k2 (zLP k3 (zLP k4 k5)))))
 clear r2 r3
 by_cases hr : x.r.length = y.r.length
 rotate_left
 ·have HNE : Hid (¬ x = y) := zH (fun h => hr (by subst h; rfl))
  have e0 : ((x.r.length : Int) != (y.r.length : Int)) = true := by simp; omega
  clear hr
  go_wp2_with fail
  go_ret
  exact ⟨false, rfl, ⟨fun h => (by cases h), fun h => absurd h HNE.out⟩, HB1.out⟩
 have e0 : ((x.r.length : Int) != (y.r.length : Int)) = false := by simp; omega
 by_cases hd : x.d.length = y.d.length
 rotate_left
 ·have HNE : Hid (¬ x = y) := zH (fun h => hd (by subst h; rfl))
  have e1 : ((x.d.length : Int) != (y.d.length : Int)) = true := by simp; omega
  clear hd
  go_wp2_with fail
  go_ret
  exact ⟨false, rfl, ⟨fun h => (by cases h), fun h => absurd h HNE.out⟩, HB1.out⟩
 have e1 : ((x.d.length : Int) != (y.d.length : Int)) = false := by simp; omega
 by_cases hv : x.v.length = y.v.length
 rotate_left
 ·have HNE : Hid (¬ x = y) := zH (fun h => hv (by subst h; rfl))
  have e2 : ((x.v.length : Int) != (y.v.length : Int)) = true := by simp; omega
  clear hv
  go_wp2_with fail
  go_ret
  exact ⟨false, rfl, ⟨fun h => (by cases h), fun h => absurd h HNE.out⟩, HB1.out⟩
 have e2 : ((x.v.length : Int) != (y.v.length : Int)) = false := by simp; omega
 have HR := zH hr; have HD := zH hd; have HV := zH hv
 go_wp2_with fail
 clear k0 k1 k2 k3 k4 k5 e0 e1 e2
 go_loopw [5] (fun iv wr => ∃ i : Nat, iv = .int .i64 (i : Int) ∧ i ≤ x.r.length ∧ Hid (x.r.take i = y.r.take i) ∧ Hid (Below w1.heap.size w1 wr)) (fun iv _ => x.r.length - (intOf iv).toNat)
 case atStart => exact ⟨0, rfl, zLW _, zH rfl, zH (b0 w1)⟩
 case round =>
  obtain ⟨i, rfl, hi, HEr, HBr⟩ := hrel
  have k0 := cb HBr.out KX.out.1; have k1 := cb HBr.out KX.out.2.1; have k2 := cb HBr.out KX.out.2.2.1; have k3 := cb HBr.out KX.out.2.2.2.1; have k4 := cb HBr.out KX.out.2.2.2.2.1; have k5 := cb HBr.out KX.out.2.2.2.2.2
  by_cases hlt : i < x.r.length
  ·have hlt2 : i < y.r.length := by omega
   obtain ⟨p, o, hpa, _, hpc⟩ := HX.out.r.pos (by omega)
   obtain ⟨p', o', hpa', _, hpc'⟩ := HY.out.r.pos (by omega)
   subst hpa hpa'
   have u0 := cb HBr.out (cb HB1.out (hpc i _ (zO x.r i hlt))); have u1 := cb HBr.out (cb HB1.out (hpc' i _ (zO y.r i hlt2)))
   have HX2 := zH (zLP k0 (zLP k3 (zLP u0 u1)))
   clear hpc hpc'
   by_cases he : x.r[i] = y.r[i]
   ·have HT := zH (qR HEr.out hlt hlt2 he)
    have hnb : (x.r[i] != y.r[i]) = false := by simp [he]
    generalize x.r[i] = xi at *; generalize y.r[i] = yi at *
    clear he
    go_upto_region 6 with fail
    clear k0 k1 k2 k3 k4 k5 u0 u1
    refine zF (fun w' => w'.cell? ⟨q2, 0, none⟩ = some (.slice (some ⟨p, o, none⟩) x.r.length c0) ∧ w'.cell? ⟨q3, 0, none⟩ = some (.slice (some ⟨p', o', none⟩) y.r.length d0) ∧ w'.cell? ⟨p, o + i, none⟩ = some (.int .i64 xi) ∧ w'.cell? ⟨p', o' + i, none⟩ = some (.int .i64 yi)) [] (by kernel_rfl) ?g18rgS (fun hHeld => ?g18rgR)
    case g18rgS => (try dsimp only); (exact HX2.out)
    try dsimp only at hHeld
    refine zD [0, 1, 2, 3, 4, 5, 6, 7, 8, 9, 10] 0 (by kernel_rfl) (fun _ _ _ _ _ h => h) (by assumption) ?_
    iterate 11 ((apply YA.take rfl (by rfl); case hy => rintro w ⟨s0, s1, s2, s3⟩; go_simp; try with_reducible rfl); try simp only [pD])
    refine YA.nil ?_
    refine zE (by kernel_rfl) ?_
    clear hHeld
    go_wp2_with fail
    go_roundw
    case rel => exact ⟨i + 1, by go_num, by omega, HT, zH HBr.out.drew⟩
    case measure => simp [intOf]; omega
   ·have HNE : Hid (¬ x = y) := zH (fun h => he (by subst h; rfl))
    have hnb : (x.r[i] != y.r[i]) = true := by simp [he]
    generalize x.r[i] = xi at *; generalize y.r[i] = yi at *
    clear he
    go_upto_region 6 with fail
    clear k0 k1 k2 k3 k4 k5 u0 u1
    refine zF (fun w' => w'.cell? ⟨q2, 0, none⟩ = some (.slice (some ⟨p, o, none⟩) x.r.length c0) ∧ w'.cell? ⟨q3, 0, none⟩ = some (.slice (some ⟨p', o', none⟩) y.r.length d0) ∧ w'.cell? ⟨p, o + i, none⟩ = some (.int .i64 xi) ∧ w'.cell? ⟨p', o' + i, none⟩ = some (.int .i64 yi)) [] (by kernel_rfl) ?g19rgS (fun hHeld => ?g19rgR)
    case g19rgS => (try dsimp only); (exact HX2.out)
    try dsimp only at hHeld
    refine zD [0, 1, 2, 3, 4, 5, 6, 7, 8, 9, 10] 0 (by kernel_rfl) (fun _ _ _ _ _ h => h) (by assumption) ?_
    iterate 11 ((apply YA.take rfl (by rfl); case hy => rintro w ⟨s0, s1, s2, s3⟩; go_simp; try with_reducible rfl); try simp only [pD])
    refine YA.nil ?_
    refine zE (by kernel_rfl) ?_
    clear hHeld
    go_wp2_with fail
    go_ret
    exact ⟨false, rfl, ⟨fun h => (by cases h), fun h => absurd h HNE.out⟩, bt HB1.out HBr.out.drew⟩
  ·obtain rfl : i = x.r.length := by omega
   have HAr : Hid (x.r = y.r) := zH (by have h := HEr.out; rw [zLT, zLR (by omega)] at h; exact h)
   go_wp2_with fail
   clear k0 k1 k2 k3 k4 k5
   go_loopw [6] (fun iv wr => ∃ i : Nat, iv = .int .i64 (i : Int) ∧ i ≤ x.d.length ∧ Hid (x.d.take i = y.d.take i) ∧ Hid (Below w1.heap.size w1 wr)) (fun iv _ => x.d.length - (intOf iv).toNat)
   case atStart => exact ⟨0, rfl, zLW _, zH rfl, zH HBr.out⟩
   case round =>
    obtain ⟨i, rfl, hi, HEd, HBd⟩ := hrel
    have k0 := cb HBd.out KX.out.1; have k1 := cb HBd.out KX.out.2.1; have k2 := cb HBd.out KX.out.2.2.1; have k3 := cb HBd.out KX.out.2.2.2.1; have k4 := cb HBd.out KX.out.2.2.2.2.1; have k5 := cb HBd.out KX.out.2.2.2.2.2
    by_cases hlt : i < x.d.length
    ·have hlt2 : i < y.d.length := by omega
     obtain ⟨p, o, hpa, _, hpc⟩ := HX.out.d.pos (by omega)
     obtain ⟨p', o', hpa', _, hpc'⟩ := HY.out.d.pos (by omega)
     subst hpa hpa'
     have u0 := cb HBd.out (cb HB1.out (hpc i _ (zO x.d i hlt))); have u1 := cb HBd.out (cb HB1.out (hpc' i _ (zO y.d i hlt2)))
     have HX2 := zH (zLP k1 (zLP k4 (zLP u0 u1)))
     clear hpc hpc'
     by_cases he : x.d[i] = y.d[i]
     ·have HT := zH (qR HEd.out hlt hlt2 he)
      have hnb : (x.d[i] != y.d[i]) = false := by simp [he]
      generalize x.d[i] = xi at *; generalize y.d[i] = yi at *
      clear he
      go_upto_region 11 with fail
      clear k0 k1 k2 k3 k4 k5 u0 u1
      refine zF (fun w' => w'.cell? ⟨q2, 1, none⟩ = some (.slice (some ⟨p, o, none⟩) x.d.length c1) ∧ w'.cell? ⟨q3, 1, none⟩ = some (.slice (some ⟨p', o', none⟩) y.d.length d1) ∧ w'.cell? ⟨p, o + i, none⟩ = some (.int .i64 xi) ∧ w'.cell? ⟨p', o' + i, none⟩ = some (.int .i64 yi)) [] (by kernel_rfl) ?g20rgS (fun hHeld => ?g20rgR)
      case g20rgS => (try dsimp only); (exact HX2.out)
      try dsimp only at hHeld
      refine zD [0, 1, 2, 3, 4, 5, 6, 7, 8, 9, 10] 0 (by kernel_rfl) (fun _ _ _ _ _ h => h) (by assumption) ?_
      iterate 11 ((apply YA.take rfl (by rfl); case hy => rintro w ⟨s0, s1, s2, s3⟩; go_simp; try with_reducible rfl); try simp only [pD])
      refine YA.nil ?_
      refine zE (by kernel_rfl) ?_
      clear hHeld
      go_wp2_with fail
      go_roundw
      case rel => exact ⟨i + 1, by go_num, by omega, HT, zH HBd.out.drew⟩
      case measure => simp [intOf]; omega
     ·have HNE : Hid (¬ x = y) := zH (fun h => he (by subst h; rfl))
      have hnb : (x.d[i] != y.d[i]) = true := by simp [he]
      generalize x.d[i] = xi at *; generalize y.d[i] = yi at *
      clear he
      go_upto_region 11 with fail
      clear k0 k1 k2 k3 k4 k5 u0 u1
      refine zF (fun w' => w'.cell? ⟨q2, 1, none⟩ = some (.slice (some ⟨p, o, none⟩) x.d.length c1) ∧ w'.cell? ⟨q3, 1, none⟩ = some (.slice (some ⟨p', o', none⟩) y.d.length d1) ∧ w'.cell? ⟨p, o + i, none⟩ = some (.int .i64 xi) ∧ w'.cell? ⟨p', o' + i, none⟩ = some (.int .i64 yi)) [] (by kernel_rfl) ?g21rgS (fun hHeld => ?g21rgR)
      case g21rgS => (try dsimp only); (exact HX2.out)
      try dsimp only at hHeld
      refine zD [0, 1, 2, 3, 4, 5, 6, 7, 8, 9, 10] 0 (by kernel_rfl) (fun _ _ _ _ _ h => h) (by assumption) ?_
      iterate 11 ((apply YA.take rfl (by rfl); case hy => rintro w ⟨s0, s1, s2, s3⟩; go_simp; try with_reducible rfl); try simp only [pD])
      refine YA.nil ?_
      refine zE (by kernel_rfl) ?_
      clear hHeld
      go_wp2_with fail
      go_ret
      exact ⟨false, rfl, ⟨fun h => (by cases h), fun h => absurd h HNE.out⟩, bt HB1.out HBd.out.drew⟩
    ·obtain rfl : i = x.d.length := by omega
     have HAd : Hid (x.d = y.d) := zH (by have h := HEd.out; rw [zLT, zLR (by omega)] at h; exact h)
     go_wp2_with fail
     clear k0 k1 k2 k3 k4 k5
     go_loopw [7] (fun iv wr => ∃ i : Nat, iv = .int .i64 (i : Int) ∧ i ≤ x.v.length ∧ Hid (x.v.take i = y.v.take i) ∧ Hid (Below w1.heap.size w1 wr)) (fun iv _ => x.v.length - (intOf iv).toNat)
     case atStart => exact ⟨0, rfl, zLW _, zH rfl, zH HBd.out⟩
     case round =>
      obtain ⟨i, rfl, hi, HEv, HBv⟩ := hrel
      have k0 := cb HBv.out KX.out.1; have k1 := cb HBv.out KX.out.2.1; have k2 := cb HBv.out KX.out.2.2.1; have k3 := cb HBv.out KX.out.2.2.2.1; have k4 := cb HBv.out KX.out.2.2.2.2.1; have k5 := cb HBv.out KX.out.2.2.2.2.2
      by_cases hlt : i < x.v.length
      ·have hlt2 : i < y.v.length := by omega
       obtain ⟨p, o, hpa, _, hpc⟩ := HX.out.v.pos (by omega)
       obtain ⟨p', o', hpa', _, hpc'⟩ := HY.out.v.pos (by omega)
       subst hpa hpa'
       have u0 := cb HBv.out (cb HB1.out (hpc _ _ (qL x.v i hlt).1)); have u1 := cb HBv.out (cb HB1.out (hpc _ _ (qL x.v i hlt).2)); have u2 := cb HBv.out (cb HB1.out (hpc' _ _ (qL y.v i hlt2).1)); have u3 := cb HBv.out (cb HB1.out (hpc' _ _ (qL y.v i hlt2).2))
       rw [← zLV] at u1 u3
       have HX2 := zH (zLP k2 (zLP k5 (zLP u0 (zLP u1 (zLP u2 u3)))))
       clear hpc hpc'
       by_cases he : x.v[i] = y.v[i]
       ·have HT := zH (qR HEv.out hlt hlt2 he)
        have hnb : (!((x.v[i].n == y.v[i].n) && (x.v[i].s.toList == y.v[i].s.toList))) = false := by simp [he]
        generalize x.v[i] = xv at *; generalize y.v[i] = yv at *
        obtain ⟨xn, xs⟩ := xv; obtain ⟨yn, ys⟩ := yv
        dsimp only at hnb u0 u1 u2 u3 HX2
        clear he
        have hvn := fun w => zC1 w xn yn xs ys
        rw [hnb] at hvn
        go_upto_region 16 with fail
        clear k0 k1 k2 k3 k4 k5 u0 u1 u2 u3
        refine zF (fun w' => w'.cell? ⟨q2, 2, none⟩ = some (.slice (some ⟨p, o, none⟩) x.v.length c2) ∧ w'.cell? ⟨q3, 2, none⟩ = some (.slice (some ⟨p', o', none⟩) y.v.length d2) ∧ w'.cell? ⟨p, o + i * 2, none⟩ = some (.int .i64 xn) ∧ w'.cell? ⟨p, o + i * 2 + 1, none⟩ = some (.string xs) ∧ w'.cell? ⟨p', o' + i * 2, none⟩ = some (.int .i64 yn) ∧ w'.cell? ⟨p', o' + i * 2 + 1, none⟩ = some (.string ys)) [] (by kernel_rfl) ?g22rgS (fun hHeld => ?g22rgR)
        case g22rgS => (try dsimp only); (exact HX2.out)
        try dsimp only at hHeld
        refine zD [0, 1, 2, 3, 4, 5, 6, 7, 8, 9, 10] 0 (by kernel_rfl) (fun _ _ _ _ _ h => h) (by assumption) ?_
        iterate 11 ((apply YA.take rfl (by rfl); case hy => rintro w ⟨s0, s1, s2, s3, s4, s5⟩; go_simp; try with_reducible rfl); try simp only [pD])
        refine YA.nil ?_
        refine zE (by kernel_rfl) ?_
        clear hHeld
        go_wp2_with fail
        go_roundw
        case rel => exact ⟨i + 1, by go_num, by omega, HT, zH HBv.out.drew⟩
        case measure => simp [intOf]; omega
       ·have HNE : Hid (¬ x = y) := zH (fun h => he (by subst h; rfl))
        have hnb : (!((x.v[i].n == y.v[i].n) && (x.v[i].s.toList == y.v[i].s.toList))) = true := by rw [Bool.not_eq_true', Bool.eq_false_iff]; intro h; rw [Bool.and_eq_true, beq_iff_eq, beq_iff_eq] at h; exact he (zJo h.1 h.2)
        generalize x.v[i] = xv at *; generalize y.v[i] = yv at *
        obtain ⟨xn, xs⟩ := xv; obtain ⟨yn, ys⟩ := yv
        dsimp only at hnb u0 u1 u2 u3 HX2
        clear he
        have hvn := fun w => zC1 w xn yn xs ys
        rw [hnb] at hvn
        go_upto_region 16 with fail
        clear k0 k1 k2 k3 k4 k5 u0 u1 u2 u3
        refine zF (fun w' => w'.cell? ⟨q2, 2, none⟩ = some (.slice (some ⟨p, o, none⟩) x.v.length c2) ∧ w'.cell? ⟨q3, 2, none⟩ = some (.slice (some ⟨p', o', none⟩) y.v.length d2) ∧ w'.cell? ⟨p, o + i * 2, none⟩ = some (.int .i64 xn) ∧ w'.cell? ⟨p, o + i * 2 + 1, none⟩ = some (.string xs) ∧ w'.cell? ⟨p', o' + i * 2, none⟩ = some (.int .i64 yn) ∧ w'.cell? ⟨p', o' + i * 2 + 1, none⟩ = some (.string ys)) [] (by kernel_rfl) ?g23rgS (fun hHeld => ?g23rgR)
        case g23rgS => (try dsimp only); (exact HX2.out)
        try dsimp only at hHeld
        refine zD [0, 1, 2, 3, 4, 5, 6, 7, 8, 9, 10] 0 (by kernel_rfl) (fun _ _ _ _ _ h => h) (by assumption) ?_
        iterate 11 ((apply YA.take rfl (by rfl); case hy => rintro w ⟨s0, s1, s2, s3, s4, s5⟩; go_simp; try with_reducible rfl); try simp only [pD])
        refine YA.nil ?_
        refine zE (by kernel_rfl) ?_
        clear hHeld
        go_wp2_with fail
        go_ret
        exact ⟨false, rfl, ⟨fun h => (by cases h), fun h => absurd h HNE.out⟩, bt HB1.out HBv.out.drew⟩
      ·obtain rfl : i = x.v.length := by omega
       have HAv : Hid (x.v = y.v) := zH (by have h := HEv.out; rw [zLT, zLR (by omega)] at h; exact h)
       go_wp2_with fail
       clear k0 k1 k2 k3 k4 k5
       go_ret
       exact ⟨true, rfl, ⟨fun _ => Cl.ext' HAr.out HAd.out HAv.out, fun _ => rfl⟩, bt HB1.out HBv.out⟩
end Go.Proofs.Ytjbkjfefjhbolaa
