import Derived.Test.YtjbkjfefjhbolaakOwn14
import Derived.Laws.StructEq
set_option linter.unusedSimpArgs false
set_option linter.unusedVariables false
namespace Go.Proofs.Ytjbkjfefjhbolaa
open Go.RowKit Go.Shr
/-- A column: its levels, its values. -/
structure Cl where
 r : List Int
 d : List Int
 v : List Vc
theorem Cl.ext' {x y : Cl} (h1 : x.r = y.r) (h2 : x.d = y.d) (h3 : x.v = y.v) : x = y := by cases x; cases y; simp_all
/-- A leaf's cells as a column. -/
def clC (C : List Cel) : Cl := ⟨C.map fun c => (c.r : Int), C.map fun c => (c.d : Int), celV C⟩
theorem clC_r (C : List Cel) : ints (clC C).r = celR C := by simp [clC, ints, celR]
theorem clC_d (C : List Cel) : ints (clC C).d = celD C := by simp [clC, ints, celD]
/-- A column that is read. -/
structure ClAt (ok : Nat → Prop) (w : World) (c : Cl) (a0 : Option Addr) (c0 : Nat) (a1 : Option Addr) (c1 : Nat) (a2 : Option Addr) (c2 : Nat) : Prop where
 r : Sl ok w 1 a0 c.r.length c0 (ints c.r)
 d : Sl ok w 1 a1 c.d.length c1 (ints c.d)
 v : Sl ok w 2 a2 c.v.length c2 (vcs c.v)
theorem ClAt.go {ok ok' S : Nat → Prop} {w w' : World} {c : Cl} {a0 a1 a2 : Option Addr} {c0 c1 c2 : Nat} (h : ClAt ok w c a0 c0 a1 c1 a2 c2) (hc : Chg S w w') (hn : ∀ k, k < w.heap.size → ok k → ¬ S k ∧ ok' k) : ClAt ok' w' c a0 c0 a1 c1 a2 c2 :=
 ⟨h.r.go hc hn (by decide), h.d.go hc hn (by decide), h.v.go hc hn (by decide)⟩
theorem ClAt.below {w w' : World} {c : Cl} {a0 a1 a2 : Option Addr} {c0 c1 c2 : Nat} (h : ClAt (fun b => b < w.heap.size) w c a0 c0 a1 c1 a2 c2) (hb : Below w.heap.size w w') : ClAt (fun b => b < w'.heap.size) w' c a0 c0 a1 c1 a2 c2 :=
 ⟨slb h.r hb, slb h.d hb, slb h.v hb⟩
/-- The headers of columns, one behind the other; what they are. -/
def HdG (ok : Nat → Prop) (w : World) : List Cl → List Value → Prop
 | [], xs => xs = []
 | c :: r, xs => ∃ a0 c0 a1 c1 a2 c2 xr, xs = .slice a0 c.r.length c0 :: .slice a1 c.d.length c1 :: .slice a2 c.v.length c2 :: xr ∧ ClAt ok w c a0 c0 a1 c1 a2 c2 ∧ HdG ok w r xr
theorem HdG.go {ok ok' S : Nat → Prop} {w w' : World} (hc : Chg S w w') (hn : ∀ k, k < w.heap.size → ok k → ¬ S k ∧ ok' k) : ∀ {L : List Cl} {xs : List Value}, HdG ok w L xs → HdG ok' w' L xs
 | [], xs, h => h
 | c :: r, xs, h => by
  obtain ⟨a0, c0, a1, c1, a2, c2, xr, h1, h2, h3⟩ := h
  exact ⟨a0, c0, a1, c1, a2, c2, xr, h1, h2.go hc hn, HdG.go hc hn h3⟩
theorem HdG.below {w w' : World} (hb : Below w.heap.size w w') : ∀ {L : List Cl} {xs : List Value}, HdG (fun b => b < w.heap.size) w L xs → HdG (fun b => b < w'.heap.size) w' L xs
 | [], xs, h => h
 | c :: r, xs, h => by
  obtain ⟨a0, c0, a1, c1, a2, c2, xr, h1, h2, h3⟩ := h
  exact ⟨a0, c0, a1, c1, a2, c2, xr, h1, h2.below hb, HdG.below hb h3⟩
theorem HdG.len {ok : Nat → Prop} {w : World} : ∀ {L : List Cl} {xs : List Value}, HdG ok w L xs → xs.length = L.length * 3
 | [], xs, h => by have h' : xs = [] := h; simp [h']
 | c :: r, xs, h => by
  obtain ⟨a0, c0, a1, c1, a2, c2, xr, rfl, _, h3⟩ := h
  have := h3.len
  simp only [List.length_cons]; omega
theorem HdG.get {ok : Nat → Prop} {w : World} : ∀ {L : List Cl} {xs : List Value} (_ : HdG ok w L xs) (k : Nat) (hk : k < L.length),
  ∃ a0 c0 a1 c1 a2 c2, xs[k * 3]? = some (.slice a0 L[k].r.length c0) ∧ xs[k * 3 + 1]? = some (.slice a1 L[k].d.length c1) ∧ xs[k * 3 + 2]? = some (.slice a2 L[k].v.length c2) ∧ ClAt ok w L[k] a0 c0 a1 c1 a2 c2
 | c :: r, xs, h, 0, _ => by
  obtain ⟨a0, c0, a1, c1, a2, c2, xr, rfl, h2, _⟩ := h
  exact ⟨a0, c0, a1, c1, a2, c2, rfl, rfl, rfl, h2⟩
 | c :: r, xs, h, k + 1, hk => by
  obtain ⟨a0, c0, a1, c1, a2, c2, xr, rfl, _, h3⟩ := h
  rw [show (k + 1) * 3 = k * 3 + 1 + 1 + 1 by omega]
  simpa using HdG.get h3 k (by simpa using hk)
theorem HdG.of {ok : Nat → Prop} {w : World} : ∀ {L : List Cl} {xs : List Value} (_ : xs.length = L.length * 3) (_ : ∀ (k : Nat) (hk : k < L.length), ∃ a0 c0 a1 c1 a2 c2, xs[k * 3]? = some (.slice a0 L[k].r.length c0) ∧ xs[k * 3 + 1]? = some (.slice a1 L[k].d.length c1) ∧ xs[k * 3 + 2]? = some (.slice a2 L[k].v.length c2) ∧ ClAt ok w L[k] a0 c0 a1 c1 a2 c2), HdG ok w L xs
 | [], xs, h, _ => List.eq_nil_of_length_eq_zero (by simpa using h)
 | c :: r, xs, h, hk => by
  obtain ⟨a0, c0, a1, c1, a2, c2, h0, h1, h2, h3⟩ := hk 0 (by simp)
  match xs, h with
  | x0 :: x1 :: x2 :: xr, h =>
   simp at h0 h1 h2
   refine ⟨a0, c0, a1, c1, a2, c2, xr, by rw [h0, h1, h2], h3, HdG.of (by simp at h; omega) (fun k hk' => ?_)⟩
   have := hk (k + 1) (by simpa using hk')
   rw [show (k + 1) * 3 = k * 3 + 1 + 1 + 1 by omega] at this
   simpa using this
  | [], h => simp at h
  | [_], h => simp at h; omega
  | [_, _], h => simp at h; omega
theorem HdG.one {ok : Nat → Prop} {w : World} : ∀ {L : List Cl} {xs : List Value}, HdG ok w L xs → ∀ u ∈ xs, u.oneCell' = true
 | [], xs, h, u, hu => by have h' : xs = [] := h; subst h'; cases hu
 | c :: r, xs, h, u, hu => by
  obtain ⟨a0, c0, a1, c1, a2, c2, xr, rfl, _, h3⟩ := h
  rcases List.mem_cons.1 hu with rfl | hu
  ·rfl
  rcases List.mem_cons.1 hu with rfl | hu
  ·rfl
  rcases List.mem_cons.1 hu with rfl | hu
  ·rfl
  exact HdG.one h3 u hu
theorem HdG.snoc {ok : Nat → Prop} {w : World} {c : Cl} {a0 a1 a2 : Option Addr} {c0 c1 c2 : Nat} (hc : ClAt ok w c a0 c0 a1 c1 a2 c2) : ∀ {L : List Cl} {xs : List Value}, HdG ok w L xs → HdG ok w (L ++ [c]) (xs ++ [.slice a0 c.r.length c0, .slice a1 c.d.length c1, .slice a2 c.v.length c2])
 | [], xs, h => by have h' : xs = [] := h; subst h'; exact ⟨a0, c0, a1, c1, a2, c2, [], rfl, hc, rfl⟩
 | d :: r, xs, h => by
  obtain ⟨b0, d0, b1, d1, b2, d2, xr, rfl, h2, h3⟩ := h
  exact ⟨b0, d0, b1, d1, b2, d2, _, rfl, h2, HdG.snoc hc h3⟩
/-- Columns that are read: their slice, and all that it leads to. -/
structure ColsR (w : World) (a : Option Addr) (n cap : Nat) (L : List Cl) (xs : List Value) : Prop where
 sl : Sl (fun b => b < w.heap.size) w 3 a n cap xs
 hd : HdG (fun b => b < w.heap.size) w L xs
theorem ColsR.n {w : World} {a : Option Addr} {n cap : Nat} {L : List Cl} {xs : List Value} (h : ColsR w a n cap L xs) : n = L.length := by have h1 := h.sl.len; have h2 := h.hd.len; omega
theorem ColsR.below {w w' : World} {a : Option Addr} {n cap : Nat} {L : List Cl} {xs : List Value} (h : ColsR w a n cap L xs) (hb : Below w.heap.size w w') : ColsR w' a n cap L xs := ⟨slb h.sl hb, h.hd.below hb⟩
theorem ColsR.nil (w : World) (a : Option Addr) : ColsR w a 0 0 [] [] := ⟨Sl.nil _ _ _ _, rfl⟩
theorem ColsR.get {w : World} {a : Option Addr} {n cap : Nat} {L : List Cl} {xs : List Value} (h : ColsR w a n cap L xs) (k : Nat) (hk : k < L.length) :
  ∃ b o a0 c0 a1 c1 a2 c2, a = some ⟨b, o, none⟩ ∧ w.cell? ⟨b, o + k * 3, none⟩ = some (.slice a0 L[k].r.length c0) ∧ w.cell? ⟨b, o + k * 3 + 1, none⟩ = some (.slice a1 L[k].d.length c1) ∧ w.cell? ⟨b, o + k * 3 + 2, none⟩ = some (.slice a2 L[k].v.length c2) ∧ ClAt (fun b => b < w.heap.size) w L[k] a0 c0 a1 c1 a2 c2 := by
 obtain ⟨b, o, rfl, _, hc⟩ := h.sl.pos (by have := h.n; omega)
 obtain ⟨a0, c0, a1, c1, a2, c2, h0, h1, h2, h3⟩ := h.hd.get k hk
 exact ⟨b, o, a0, c0, a1, c1, a2, c2, rfl, hc _ _ h0, by rw [Nat.add_assoc]; exact hc _ _ h1, by rw [Nat.add_assoc]; exact hc _ _ h2, h3⟩
/-- All columns of a table. -/
def clsC (m : Nat) (C : Nat → List Cel) : List Cl := (List.range m).map fun k => clC (C k)
theorem clsC_len (m : Nat) (C : Nat → List Cel) : (clsC m C).length = m := by simp [clsC]
theorem clsC_get {m : Nat} {C : Nat → List Cel} {k : Nat} (hk : k < (clsC m C).length) : (clsC m C)[k] = clC (C k) := by simp [clsC]
theorem CT.clAt {B : Nat} {w : World} {bc m : Nat} {C : Nat → List Cel} {cur : Array Value} {aa : Nat → Option Addr} {cc : Nat → Nat} (h : CT B w bc m C cur aa cc) {k : Nat} (hk : k < m) : ClAt (fun b => b < w.heap.size) w (clC (C k)) (aa (k * 3)) (cc (k * 3)) (aa (k * 3 + 1)) (cc (k * 3 + 1)) (aa (k * 3 + 2)) (cc (k * 3 + 2)) := by
 have h0 := (OW.own0 h.ow hk).sl.mono (ok' := fun b => b < w.heap.size) (fun b hb _ => hb) (by decide)
 have h1 := (OW.own1 h.ow hk).sl.mono (ok' := fun b => b < w.heap.size) (fun b hb _ => hb) (by decide)
 have h2 := (OW.own2 h.ow hk).sl.mono (ok' := fun b => b < w.heap.size) (fun b hb _ => hb) (by decide)
 refine ⟨?_, ?_, h2⟩
 ·rw [clC_r]; simpa [clC] using h0
 ·rw [clC_d]; simpa [clC] using h1
theorem CT.cols {B : Nat} {w : World} {bc m : Nat} {C : Nat → List Cel} {cur : Array Value} {aa : Nat → Option Addr} {cc : Nat → Nat} (h : CT B w bc m C cur aa cc) (hm : m ≤ maxLen) : ColsR w (some ⟨bc, 0, none⟩) m m (clsC m C) cur.toList := by
 refine ⟨⟨by simpa using h.size, Nat.le_refl _, hm, .inr ⟨bc, 0, rfl, h.row.lt, fun j u hj => by rw [Nat.zero_add, h.row.cell]; simpa using hj⟩⟩, HdG.of (by rw [clsC_len]; simpa using h.size) (fun k hk => ?_)⟩
 rw [clsC_len] at hk
 have h0 := h.hds (k * 3) (by omega); have h1 := h.hds (k * 3 + 1) (by omega); have h2 := h.hds (k * 3 + 2) (by omega)
 rw [(n0 C k).1] at h0; rw [(n1 C k).1] at h1; rw [(n2 C k).1] at h2
 refine ⟨_, _, _, _, _, _, ?_, ?_, ?_, by rw [clsC_get]; exact h.clAt hk⟩
 ·rw [clsC_get]; simpa [clC] using h0
 ·rw [clsC_get]; simpa [clC] using h1
 ·rw [clsC_get]; simpa [clC] using h2
theorem vcs_get (L : List Vc) (k : Nat) (h : k < L.length) : (vcs L)[k * 2]? = some (.int .i64 L[k].n) ∧ (vcs L)[k * 2 + 1]? = some (.string L[k].s) := by
 induction L generalizing k with
 | nil => simp at h
 | cons x L ih =>
  cases k with
  | zero => simp [vcs]
  | succ k =>
   have := ih k (by simpa using h)
   rw [show (k + 1) * 2 = k * 2 + 1 + 1 by omega]
   simpa [vcs] using this
/-- Two rows are the same as far as they are looked at. -/
theorem take_eq_succ {α : Type} {x y : List α} {k : Nat} (h : x.take k = y.take k) (hx : k < x.length) (hy : k < y.length) (e : x[k] = y[k]) : x.take (k + 1) = y.take (k + 1) := by
 rw [List.take_succ_eq_append_getElem hx, List.take_succ_eq_append_getElem hy, h, e]
end Go.Proofs.Ytjbkjfefjhbolaa
namespace Go.Proofs.Ytjbkjfefjhbolaa
open Go.RowKit Go.Shr
theorem vc_ext {x y : Vc} (h1 : x.n = y.n) (h2 : x.s.toList = y.s.toList) : x = y := by
 obtain ⟨n, s⟩ := x; obtain ⟨m, u⟩ := y
 have h4 : s = u := by
  rw [ByteArray.toList_eq, ByteArray.toList_eq] at h2
  cases s; cases u; simp_all
 simp_all
set_option maxRecDepth 100000 in
theorem val_equal (w : World) (n m : Int) (s u : ByteArray) : (Op.equalIn 10000 44 (.agg #[.int .i64 n, .string s]) (.agg #[.int .i64 m, .string u])).run Try.prog w = .ok ((n == m) && (s.toList == u.toList)) w := by
 have h0 : Try.prog.underlying 44 = some (.struct (Try.prog.fieldsOf 44)) := by unfold Program.fieldsOf; rw [Try.underlying44]
 rw [show (10000 : Nat) = 9999 + 1 from rfl, run_equalIn_agg _ _ _ _ _ h0 (by kernel_rfl)]
 have hf : (Try.prog.fieldsOf 44).toList = [⟨"N", 3, 0, false, "", "", 0⟩, ⟨"S", 9, 1, false, "", "", 8⟩] := by unfold Program.fieldsOf; rw [Try.underlying44]
 rw [hf]
 have h3 := Try.underlying3
 have h9 := Try.underlying9
 have e1 := run_equalIn_int (P := Try.prog) w 9998 3 .i64 .i64 n m h3
 have e2 := run_equalIn_string (P := Try.prog) w 9998 9 s u h9
 have p1 : (part 3 #[Value.int .i64 n, .string s] 0).run Try.prog w = .ok (.int .i64 n) w := by go_simp
 have p2 : (part 9 #[Value.int .i64 n, .string s] 1).run Try.prog w = .ok (.string s) w := by go_simp
 have p3 : (part 3 #[Value.int .i64 m, .string u] 0).run Try.prog w = .ok (.int .i64 m) w := by go_simp
 have p4 : (part 9 #[Value.int .i64 m, .string u] 1).run Try.prog w = .ok (.string u) w := by go_simp
 simp only [Op.eqFields, ne_eq, String.reduceEq, not_false_eq_true, if_true, Sem.run_bind, Result.andThen_ok, p1, p3, e1]
 cases hnm : (n == m) <;> cases hsu : (s.toList == u.toList) <;> simp [Sem.run_ite, e2, p2, p4, hsu]
theorem val_neq (w : World) (n m : Int) (s u : ByteArray) : (binOp .neq 44 (.agg #[.int .i64 n, .string s]) (.agg #[.int .i64 m, .string u])).run Try.prog w = .ok (.bool (!((n == m) && (s.toList == u.toList)))) w := by
 rw [run_neq_struct, val_equal]; rfl
end Go.Proofs.Ytjbkjfefjhbolaa
