import Derived.Test.YtjbkjfefjhbolaakAsmP
import Derived.Test.YtjbkjfefjhbolaakLCols14
import Derived.Test.YtjbkjfefjhbolaakPLeav14
import Derived.Test.YtjbkjfefjhbolaakMany9
set_option linter.all false
open List renaming getD_eq_getElem?_getD → zLP, getElem?_eq_getElem → zLQ, cons_append → zLR, nil_append → zLS, replicate → zLT, length_take → zLV, replicate_succ → zLW, set_cons_zero → zLX, set_cons_succ → zLY, flatMap_cons → zLZ, getElem_take → zL0, length_drop → zL1, getElem_map → zL2, getElem_drop → zL4
open Nat renaming add_assoc → zLU, add_zero → zL3
namespace Go.Proofs.Ytjbkjfefjhbolaa
open Go.RowKit Go.Shr
structure BQ where
 l : List Fl
 sa : Option Addr
 sc : Nat
 bx : Nat
 B0 : Nat
 bk : Nat
 bl : Nat
 bv : Nat
 bi : Nat
 la : Option Addr
 lc : Nat
 ca : Option Addr
 cc : Nat
 L : List Cl
 xs : List Value
def BQ.n (q : BQ) : Nat := q.l.length
def BQ.m (q : BQ) : Nat := (zG q.l q.l.length).length
def BQ.lf (q : BQ) (k : Nat) : Nat := (zG q.l q.l.length).getD k 0
def BQ.ok (q : BQ) (b : Nat) : Prop := b < q.B0 ∧ b ≠ q.bx
def BQ.X (q : BQ) (k : Nat) : Cl := q.L.getD k ⟨[], [], []⟩
def inN (l : List Fl) (i : Nat) : Nat := ((zG l l.length).filter fun f => (Go.Shr.chain (par l) f).contains i).length
def zBd (ok : Nat → Prop) (w : World) (b n : Nat) (K : Nat → List Int) : Prop :=
 ok b ∧ ∀ k, k < n → ∃ a c, w.cell? ⟨b, k, none⟩ = some (.slice a (K k).length c) ∧ Sl ok w 1 a (K k).length c (zQ (K k))
theorem zBd.go {ok S : Nat → Prop} {w w' : World} (hc : Chg S w w') (hn : ∀ k, ok k → ¬ S k) {b n : Nat} {K : Nat → List Int} (h : zBd ok w b n K) : zBd ok w' b n K :=
 ⟨h.1, fun k hk => by
  obtain ⟨a, c, h1, h2⟩ := h.2 k hk
  exact ⟨a, c, hc.keep h1 (hn b h.1), h2.chg hc hn⟩⟩
theorem HdG.chg {ok S : Nat → Prop} {w w' : World} (hc : Chg S w w') (hn : ∀ k, ok k → ¬ S k) : ∀ {L : List Cl} {xs : List Value}, HdG ok w L xs → HdG ok w' L xs
 | [], xs, h => h
 | c :: r, xs, h => by
  obtain ⟨a0, c0, a1, c1, a2, c2, xr, h1, h2, h3⟩ := h
  exact ⟨a0, c0, a1, c1, a2, c2, xr, h1, ⟨h2.r.chg hc hn, h2.d.chg hc hn, h2.v.chg hc hn⟩, HdG.chg hc hn h3⟩
def BQ.box (q : BQ) (bad : Bool) : Array Value := #[.slice q.sa q.n q.sc, .slice (some ⟨q.bk, 0, none⟩) q.n q.n, .slice (some ⟨q.bl, 0, none⟩) q.n q.n, .slice q.la q.m q.lc, .slice q.ca q.m q.cc, .slice (some ⟨q.bv, 0, none⟩) q.m q.m, .slice (some ⟨q.bi, 0, none⟩) q.n q.n, .bool bad]
structure BS (q : BQ) (w : World) : Prop where
 s : Sl q.ok w 4 q.sa q.n q.sc (fls q.l)
 kids : zBd q.ok w q.bk q.n (fun i => KF q.l i)
 levOk : q.ok q.bl
 lev : ∀ (j : Nat) (v : Value), (lvs q.l (List.range q.n))[j]? = some v → w.cell? ⟨q.bl, j, none⟩ = some v
 leaves : Sl q.ok w 4 q.la q.m q.lc (lvs q.l (zG q.l q.l.length))
 cols : Sl q.ok w 3 q.ca q.m q.cc q.xs
 hd : HdG q.ok w q.L q.xs
 vals : zBd q.ok w q.bv q.m (fun k => jY (lvD q.l (q.lf k)) (q.X k).d)
 ins : ∃ K, zBd q.ok w q.bi q.n K ∧ ∀ i, i < q.n → (K i).length = inN q.l i
structure BA (q : BQ) (w : World) (bad : Bool) : Prop where
 row : Rw w q.bx (q.box bad) 74
 st : BS q w
 B0 : q.B0 ≤ w.heap.size
theorem BS.go {q : BQ} {w w' : World} {S : Nat → Prop} (h : BS q w) (hc : Chg S w w') (hn : ∀ k, q.ok k → ¬ S k) : BS q w' :=
 ⟨h.s.chg hc hn, h.kids.go hc hn, h.levOk, fun j v hj => hc.keep (h.lev j v hj) (hn _ h.levOk), h.leaves.chg hc hn, h.cols.chg hc hn, h.hd.chg hc hn, h.vals.go hc hn, by obtain ⟨K, h1, h2⟩ := h.ins; exact ⟨K, h1.go hc hn, h2⟩⟩
theorem BA.below {q : BQ} {w w' : World} {bad : Bool} (h : BA q w bad) (hb : Below w.heap.size w w') : BA q w' bad :=
 ⟨h.row.below hb, h.st.go (Chg.ofBelow hb) (fun k hk h2 => by have := hk.1; have := h.B0; omega), Nat.le_trans h.B0 hb.size⟩
theorem zJH (w : World) (bx : Nat) (b : Bool) : Chg (fun k => k = bx) w (w.setCell ⟨bx, 7, none⟩ (.bool b)) := (Chg.refl (fun k => k = bx) w).setCell (p := ⟨bx, 7, none⟩) (.inr rfl) (.bool b)
theorem BA.set {q : BQ} {w : World} {bad : Bool} (h : BA q w bad) (b : Bool) : BA q (w.setCell ⟨q.bx, 7, none⟩ (.bool b)) b :=
 ⟨h.row.set 7 (.bool b), h.st.go (S := fun k => k = q.bx) (zJH w q.bx b) (fun k hk e => hk.2 e), by simpa using h.B0⟩
theorem BA.other {q : BQ} {w w' : World} {bad : Bool} {S : Nat → Prop} (h : BA q w bad) (hc : Chg S w w') (hn : ∀ k, k < q.B0 ∨ k = q.bx → ¬ S k) : BA q w' bad :=
 ⟨h.row.chg hc (hn _ (.inr rfl)), h.st.go hc (fun k hk => hn k (.inl hk.1)), Nat.le_trans h.B0 hc.size⟩
structure CX (q : BQ) : Prop where
 sch : ∃ sh, Sch q.l sh
 small : q.l.length ≤ 1000
 m : q.L.length = q.m
 rd : ∀ (k : Nat) (h : k < q.L.length), q.L[k].r.length = q.L[k].d.length ∧ q.L[k].d.length ≤ 1000000 ∧ vN (lvD q.l (q.lf k) : Int) q.L[k].d q.L[k].d.length = q.L[k].v.length
 str : ∀ (k : Nat) (h : k < q.L.length), ∀ v ∈ q.L[k].v, v.s.size ≤ maxLen
section
variable {q : BQ} {w : World}
theorem BS.row (h : BS q w) {i : Nat} (hi : i < q.n) : ∃ b o, q.sa = some ⟨b, o, none⟩ ∧ q.ok b ∧ w.cell? ⟨b, o + i * 4 + 1, none⟩ = some (.int .i64 (flN q.l i).rep) ∧ w.cell? ⟨b, o + i * 4 + 2, none⟩ = some (.int .i64 (flN q.l i).kind) := by
 obtain ⟨b, o, e, hk, hc⟩ := h.s.pos (by omega)
 obtain ⟨f0, f1, f2, f3⟩ := yB q.l i hi
 have e2 : q.l[i] = flN q.l i := (qS hi).symm
 rw [e2] at f1 f2
 exact ⟨b, o, e, hk, by rw [zLU]; exact hc _ _ f1, by rw [zLU]; exact hc _ _ f2⟩
theorem BS.levAt (h : BS q w) {i : Nat} (hi : i < q.n) : w.cell? ⟨q.bl, i * 4, none⟩ = some (.int .i64 (i : Int)) ∧ w.cell? ⟨q.bl, i * 4 + 1, none⟩ = some (.int .i64 (lvR q.l i : Int)) ∧ w.cell? ⟨q.bl, i * 4 + 2, none⟩ = some (.int .i64 (lvD q.l i : Int)) ∧ w.cell? ⟨q.bl, i * 4 + 3, none⟩ = some (.int .i64 (flN q.l i).kind) := by
 obtain ⟨f0, f1, f2, f3⟩ := zBf q.l (List.range q.n) i (by simpa using hi)
 simp only [List.getElem_range] at f0 f1 f2 f3
 exact ⟨h.lev _ _ f0, h.lev _ _ f1, h.lev _ _ f2, h.lev _ _ f3⟩
theorem BS.leafAt (h : BS q w) {k : Nat} (hk : k < q.m) : ∃ b o, q.la = some ⟨b, o, none⟩ ∧ q.ok b ∧ w.cell? ⟨b, o + k * 4 + 2, none⟩ = some (.int .i64 (lvD q.l (q.lf k) : Int)) := by
 obtain ⟨b, o, e, hk', hc⟩ := h.leaves.pos (by omega)
 obtain ⟨f0, f1, f2, f3⟩ := zBf q.l (zG q.l q.l.length) k hk
 have e2 : (zG q.l q.l.length)[k]'hk = q.lf k := by
  unfold BQ.lf; rw [zLP, zLQ hk]; rfl
 rw [e2] at f2
 exact ⟨b, o, e, hk', by rw [zLU]; exact hc _ _ f2⟩
theorem BS.colAt (h : BS q w) {k : Nat} (hk : k < q.L.length) (hm : q.L.length = q.m) : ∃ b o a0 c0 a1 c1 a2 c2, q.ca = some ⟨b, o, none⟩ ∧ q.ok b ∧ w.cell? ⟨b, o + k * 3, none⟩ = some (.slice a0 q.L[k].r.length c0) ∧ w.cell? ⟨b, o + k * 3 + 1, none⟩ = some (.slice a1 q.L[k].d.length c1) ∧ w.cell? ⟨b, o + k * 3 + 2, none⟩ = some (.slice a2 q.L[k].v.length c2) ∧ zBi q.ok w q.L[k] a0 c0 a1 c1 a2 c2 := by
 obtain ⟨b, o, e, hk', hc⟩ := h.cols.pos (by omega)
 obtain ⟨a0, c0, a1, c1, a2, c2, h0, h1, h2, h3⟩ := h.hd.get k hk
 exact ⟨b, o, a0, c0, a1, c1, a2, c2, e, hk', hc _ _ h0, by rw [zLU]; exact hc _ _ h1, by rw [zLU]; exact hc _ _ h2, h3⟩
end
theorem BQ.X_eq {q : BQ} {k : Nat} (h : k < q.L.length) : q.X k = q.L[k] := by unfold BQ.X; rw [zLP, zLQ h]; rfl
structure Spn where
 k : Nat
 f : Nat
 t : Nat
def spC (p : Spn) : List Value := [.int .i64 (p.k : Int), .int .i64 (p.f : Int), .int .i64 (p.t : Int)]
def qV (l : List Spn) : List Value := l.flatMap spC
theorem zIG (l : List Spn) : (qV l).length = l.length * 3 := by
 induction l with
 | nil => rfl
 | cons x l ih => simp [qV, spC] at ih ⊢; omega
theorem zCu (l : List Spn) (p : Spn) : qV (l ++ [p]) = qV l ++ spC p := by simp [qV]
theorem zAS : ∀ (l : List Spn) (k : Nat) (h : k < l.length), (qV l)[k * 3]? = some (.int .i64 (l[k].k : Int)) ∧ (qV l)[k * 3 + 1]? = some (.int .i64 (l[k].f : Int)) ∧ (qV l)[k * 3 + 2]? = some (.int .i64 (l[k].t : Int))
 | x :: l, 0, h => ⟨rfl, rfl, rfl⟩
 | x :: l, k + 1, h => by
  have := zAS l k (by simpa using h)
  rw [show (k + 1) * 3 = k * 3 + 1 + 1 + 1 by omega]
  simpa [qV, spC] using this
theorem zCv : ∀ (l : List Spn) (a n : Nat), ((qV l).drop (a * 3)).take (n * 3) = qV ((l.drop a).take n)
 | [], a, n => by simp [qV]
 | x :: l, 0, 0 => by simp [qV]
 | x :: l, 0, n + 1 => by
  have := zCv l 0 n
  simp only [Nat.zero_mul, List.drop_zero] at this ⊢
  rw [show (n + 1) * 3 = n * 3 + 1 + 1 + 1 by omega]
  simp only [qV, spC, zLZ, zLR, zLS, List.take_succ_cons] at this ⊢
  rw [this]
 | x :: l, a + 1, n => by
  have := zCv l a n
  rw [show (a + 1) * 3 = a * 3 + 1 + 1 + 1 by omega]
  simp only [qV, spC, zLZ, zLR, zLS, List.drop_succ_cons] at this ⊢
  exact this
def zJC (q : BQ) (p : Spn) : Prop := p.k < q.L.length ∧ p.f ≤ p.t ∧ p.t ≤ (q.X p.k).r.length
def zM (q : BQ) (r : Int) (p : Spn) : List Spn := (zAT r (q.X p.k).r p.f p.t).map fun x => ⟨p.k, x.1, x.2⟩
theorem zCn : (Try.prog.info? 99).map (fun i => (i.zero, i.size, i.bytes)) = some (some (.agg #[.int .i64 0, .int .i64 0, .int .i64 0]), 3, 24) := by kernel_rfl
theorem zJJ {B : Nat} {w1 W X : World} {o : Obj} (_ : Below B w1 W) (hX : X = W.alloc o) : Below W.heap.size W X := by rw [hX]; exact ba (b0 W) _
theorem zJI {B : Nat} {w1 W X : World} {cur : Array Value} {t : TypeId} (_ : Below B w1 W) (hX : X = W.alloc (.cells cur t)) : Rw X W.heap.size cur t := by rw [hX]; exact Rw.new W _ _
def yQ (q : BQ) (C : Nat → List Cel) : Prop := ∀ k, k < q.m → q.X k = clC (C k) ∧ zJL (lvD q.l (q.lf k)) (C k)
def zCZ (C : Nat → List Cel) (p : Spn) : List Cel := ((C p.k).take p.t).drop p.f
theorem yQ.len {q : BQ} {C : Nat → List Cel} (h : yQ q C) {k : Nat} (hk : k < q.m) : (q.X k).r.length = (C k).length ∧ (q.X k).d.length = (C k).length := by rw [(h k hk).1]; simp [clC]
theorem yQ.head {q : BQ} {C : Nat → List Cel} (h : yQ q C) {p : Spn} (hk : p.k < q.m) {c : Cel} {cs : List Cel} (hc : zCZ C p = c :: cs) :
  ∃ (h1 : p.f < (C p.k).length), (C p.k)[p.f] = c ∧ p.f < p.t ∧ ∃ (h2 : p.f < (q.X p.k).d.length), (q.X p.k).d[p.f] = (c.d : Int) := by
 have hl : 0 < (zCZ C p).length := by rw [hc]; simp
 unfold zCZ at hl hc
 rw [zL1, zLV] at hl
 have h1 : p.f < (C p.k).length := by omega
 have h3 : p.f < ((C p.k).take p.t).length := by rw [zLV]; omega
 have he : (C p.k)[p.f] = c := by
  rw [List.drop_eq_getElem_cons h3] at hc
  have := (List.cons.inj hc).1
  rw [zL0] at this
  exact this
 refine ⟨h1, he, by omega, by rw [(h.len hk).2]; exact h1, ?_⟩
 have := (h p.k hk).1
 simp only [this, clC, zL2, he]
theorem yQ.val {q : BQ} {C : Nat → List Cel} (h : yQ q C) {p : Spn} (hk : p.k < q.m) {r : Nat} {v : Vc} {d : Nat} (hc : zCZ C p = [⟨r, d, some v⟩]) :
  (q.X p.k).v[vN (lvD q.l (q.lf p.k) : Int) (q.X p.k).d p.f]? = some v := by
 obtain ⟨h1, h2, _⟩ := h.head hk hc
 have := (h p.k hk).1
 rw [this]
 have e : vN (lvD q.l (q.lf p.k) : Int) (clC (C p.k)).d p.f = (zV ((C p.k).take p.f)).length := zFq (h p.k hk).2 p.f
 rw [e]
 exact zKl h1 (by rw [h2])
theorem zHs {lf d deep r : Nat} : ∀ (done : List Sh) (s : Sh) (todo : List Sh) (A : List (List Tr)) (x : List Tr) (B : List (List Tr)) (o : Nat), A.length = done.length → o + zC done ≤ lf → lf < o + zC done + s.size →
    qB lf o d deep r (done ++ s :: todo) (A ++ x :: B) = jO lf (o + zC done) d deep r s x
  | [], s, todo, A, x, B, o, h, h1, h2 => by
    obtain rfl := List.eq_nil_of_length_eq_zero h
    simp only [zLS, xH, zC, zL3] at h1 h2 ⊢
    rw [wX todo (o + s.size) d deep r B (by omega), List.append_nil]
  | e :: done, s, todo, [], x, B, o, h, _, _ => by simp at h
  | e :: done, s, todo, a :: A, x, B, o, h, h1, h2 => by
    simp only [zC] at h1 h2
    simp only [zLR, xH, zC]
    rw [zAX e o d deep r a (by omega), zLS, zHs done s todo A x B (o + e.size) (by simpa using h) (by omega) (by omega), zLU]
theorem zFi : ∀ {ks : List Sh} {xs : List (List Tr)}, fsK ks xs → xs.length = ks.length
  | [], xs, h => by rw [fsK] at h; subst h; rfl
  | s :: r, [], h => by rw [fsK] at h; exact h.elim
  | s :: r, x :: xs, h => by rw [fsK] at h; simp [zFi h.2.2]
theorem zHB : ∀ {ks : List Sh} {xs : List (List Tr)} (_ : fsK ks xs) (k : Nat) (hk : k < ks.length) (hx : k < xs.length), qW ks[k].rep xs[k].length ∧ ∀ t ∈ xs[k], fsT ks[k] t
  | s :: r, x :: xs, h, 0, _, _ => by rw [fsK] at h; exact ⟨h.1, h.2.1⟩
  | s :: r, x :: xs, h, k + 1, h1, h2 => by rw [fsK] at h; exact zHB h.2.2 k (by simpa using h1) (by simpa using h2)
theorem zIt (l : List Fl) (i : Nat) : kb l i ≤ i := yW
theorem zDA {l : List Fl} {s : Sh} {i : Nat} (hg : zR s) (hx : Ix l (fun v => zK (par l) v) i s) : kb l i < kb l (i + s.size) := by
  obtain ⟨j, h1, h2, h3⟩ := zDv s i hg hx
  have a := yS l h1
  have b := yS l (show j + 1 ≤ i + s.size by omega)
  rw [jH, if_neg h3] at b
  omega
theorem zEA {l : List Fl} {i : Nat} : ∀ (n : Nat), i ≤ n → ∃ B, zG l n = zG l i ++ B
  | 0, h => ⟨[], by have : i = 0 := by omega
                    rw [this]; simp⟩
  | n + 1, h => by
    by_cases e : i = n + 1
    · exact ⟨[], by rw [e]; simp⟩
    · obtain ⟨B, hB⟩ := zEA (l := l) (i := i) n (by omega)
      by_cases hk : (flN l n).kind = 0
      · exact ⟨B, by rw [jC hk, hB]⟩
      · exact ⟨B ++ [n], by rw [xQ hk, hB, List.append_assoc]⟩
theorem zJG {q : BQ} {i : Nat} (hi : i < q.l.length) (hk : (flN q.l i).kind ≠ 0) : q.lf (kb q.l i) = i := by
  obtain ⟨B, hB⟩ := zEA (l := q.l) (i := i + 1) q.l.length hi
  unfold BQ.lf
  rw [hB, xQ hk, zLP]
  simp [kb]
theorem zKZ {q : BQ} {k : Nat} (h : k < q.m) : q.lf k = (zG q.l q.l.length)[k]'h := by
  unfold BQ.lf; rw [zLP, zLQ h]; rfl
theorem zGR {q : BQ} {i n j : Nat} (hn : i + n ≤ q.l.length) (hj : kb q.l i + j < kb q.l (i + n)) : kb q.l i + j < q.m ∧ i ≤ q.lf (kb q.l i + j) ∧ q.lf (kb q.l i + j) < i + n ∧ (flN q.l (q.lf (kb q.l i + j))).kind ≠ 0 := by
  have h1 := yS q.l hn
  have hm : kb q.l i + j < q.m := by show _ < (zG q.l q.l.length).length; rw [← zBN]; omega
  have hr1 := zDu (l := q.l) (i := i) hm
  have hr2 := zDu (l := q.l) (i := i + n) hm
  have hg := zAM q.l q.l.length _ hm
  rw [← zKZ hm] at hr1 hr2 hg
  exact ⟨hm, hr1.2 (by omega), by have := mt hr2.1; omega, hg.2.1⟩
structure zAB (q : BQ) (i : Nat) (s : Sh) (sp : List Spn) : Prop where
  len : kb q.l i + sp.length = kb q.l (i + s.size)
  at' : ∀ (j : Nat) (h : j < sp.length), sp[j].k = kb q.l i + j ∧ zJC q sp[j]
def jN (q : BQ) (C : Nat → List Cel) (i : Nat) (sp : List Spn) (g : Nat → List Cel) : Prop := ∀ (j : Nat) (h : j < sp.length), zCZ C sp[j] = g (q.lf (kb q.l i + j))
theorem zAB.kid {q : BQ} {nm : ByteArray} {rp : Int} {done : List Sh} {s : Sh} {todo : List Sh} {i : Nat} {sp : List Spn} (h : zAB q i (.mk nm rp 0 (done ++ s :: todo)) sp) (hk : (flN q.l i).kind = 0) :
    kb q.l (i + 1 + zC done) + (kb q.l (i + 1 + zC done + s.size) - kb q.l (i + 1 + zC done)) = kb q.l (i + 1 + zC done + s.size) ∧
    (kb q.l (i + 1 + zC done) - kb q.l i) + (kb q.l (i + 1 + zC done + s.size) - kb q.l (i + 1 + zC done)) ≤ sp.length ∧ kb q.l i ≤ kb q.l (i + 1 + zC done) ∧
    zAB q (i + 1 + zC done) s ((sp.drop (kb q.l (i + 1 + zC done) - kb q.l i)).take (kb q.l (i + 1 + zC done + s.size) - kb q.l (i + 1 + zC done))) := by
  have h1 := yS q.l (show i + 1 ≤ i + 1 + zC done by omega)
  rw [zBl hk] at h1
  have h2 := yS q.l (show i + 1 + zC done ≤ i + 1 + zC done + s.size by omega)
  have hsz : i + (Sh.mk nm rp 0 (done ++ s :: todo)).size = i + 1 + zC done + s.size + zC todo := by
    simp only [Sh.size, yA, zC]; omega
  have h3 := yS q.l (show i + 1 + zC done + s.size ≤ i + (Sh.mk nm rp 0 (done ++ s :: todo)).size by rw [hsz]; omega)
  have hl := h.len
  have hlen : ((sp.drop (kb q.l (i + 1 + zC done) - kb q.l i)).take (kb q.l (i + 1 + zC done + s.size) - kb q.l (i + 1 + zC done))).length = kb q.l (i + 1 + zC done + s.size) - kb q.l (i + 1 + zC done) := by
    rw [zLV, zL1]; omega
  refine ⟨by omega, by omega, h1, ⟨by rw [hlen]; omega, fun j hj => ?_⟩⟩
  rw [hlen] at hj
  have := h.at' (kb q.l (i + 1 + zC done) - kb q.l i + j) (by omega)
  simp only [zL0, zL4]
  exact ⟨by rw [this.1]; omega, this.2⟩
theorem jN.kid {q : BQ} {C : Nat → List Cel} {nm : ByteArray} {rp : Int} {done : List Sh} {s : Sh} {todo : List Sh} {i d deep r : Nat} {sp : List Spn} {A : List (List Tr)} {x : List Tr} {B : List (List Tr)} {n0 : Int} {s0 : ByteArray} (hA : A.length = done.length)
    (hs : zAB q i (.mk nm rp 0 (done ++ s :: todo)) sp) (hk : (flN q.l i).kind = 0) (hn : i + (Sh.mk nm rp 0 (done ++ s :: todo)).size ≤ q.l.length)
    (h : jN q C i sp fun lf => yK lf i d deep r (.mk nm rp 0 (done ++ s :: todo)) (.mk n0 s0 (A ++ x :: B))) :
    jN q C (i + 1 + zC done) ((sp.drop (kb q.l (i + 1 + zC done) - kb q.l i)).take (kb q.l (i + 1 + zC done + s.size) - kb q.l (i + 1 + zC done))) fun lf => jO lf (i + 1 + zC done) d deep r s x := by
  obtain ⟨h1, h2, h3, h4⟩ := hs.kid hk
  intro j hj
  have hj' := hj
  rw [zLV, zL1] at hj'
  have hc := h (kb q.l (i + 1 + zC done) - kb q.l i + j) (by omega)
  simp only [zL0, zL4]
  rw [hc, show kb q.l i + (kb q.l (i + 1 + zC done) - kb q.l i + j) = kb q.l (i + 1 + zC done) + j by omega]
  have hsz : i + (Sh.mk nm rp 0 (done ++ s :: todo)).size = i + 1 + zC done + s.size + zC todo := by
    simp only [Sh.size, yA, zC]; omega
  obtain ⟨_, g2, g3, _⟩ := zGR (q := q) (i := i + 1 + zC done) (n := s.size) (j := j) (by omega) (by omega)
  simp only [yK, Tr.kids]
  rw [if_neg (by decide)]
  exact zHs done s todo A x B (i + 1) hA g2 g3
def VQ (q : BQ) (i : Nat) (s : Sh) (sp : List Spn) (bad : Bool) (w : World) (e : Ending) (w' : World) : Prop :=
  ∃ (t : Tr) (a : Option Addr) (c : Nat) (bad' : Bool), e = .returned (.agg #[.int .i64 t.n, .string t.s, .slice a t.kids.length c]) ∧ TrG (fun b => w.heap.size ≤ b) w' t [.int .i64 t.n, .string t.s, .slice a t.kids.length c] ∧ BA q w' bad' ∧ Chg (fun b => b = q.bx) w w' ∧
    ∀ C t0 r, yQ q C → fsT s t0 → jN q C i sp (fun lf => yK lf i (lvD q.l i) (lvR q.l i) r s t0) → bad = false → bad' = false ∧ t = t0
def VOk (q : BQ) (s : Sh) : Prop := ∀ (i : Nat) (sp : List Spn) (a : Option Addr) (c : Nat) (w : World) (bad : Bool), Ix q.l (fun v => zK (par q.l) v) i s → i + s.size ≤ q.l.length → zR s → BA q w bad →
  Sl (fun b => b < w.heap.size ∧ b ≠ q.bx) w 3 a sp.length c (qV sp) → zAB q i s sp →
  Calls Try.prog 45 #[.pointer (some ⟨q.bx, 0, none⟩), .int .i64 (i : Int), .slice a sp.length c] w (VQ q i s sp bad w)
def LQ (q : BQ) (i : Nat) (s : Sh) (sp : List Spn) (bad : Bool) (w : World) (e : Ending) (w' : World) : Prop :=
  ∃ (x : List Tr) (a : Option Addr) (c : Nat) (ys : List Value) (bad' : Bool), e = .returned (.slice a x.length c) ∧ Sl (fun b => w.heap.size ≤ b) w' 3 a x.length c ys ∧ zZ (fun b => w.heap.size ≤ b) w' x ys ∧ BA q w' bad' ∧ Chg (fun b => b = q.bx) w w' ∧
    ∀ C x0 r d deep, yQ q C → qW s.rep x0.length → (∀ t ∈ x0, fsT s t) → lvD q.l i = d + dmI s.rep → lvR q.l i = deep + rmI s.rep → jN q C i sp (fun lf => jO lf i d deep r s x0) → bad = false → bad' = false ∧ x = x0
def LOk (q : BQ) (s : Sh) : Prop := ∀ (i : Nat) (sp : List Spn) (a : Option Addr) (c : Nat) (w : World) (bad : Bool), Ix q.l (fun v => zK (par q.l) v) i s → i + s.size ≤ q.l.length → zR s → BA q w bad →
  Sl (fun b => b < w.heap.size ∧ b ≠ q.bx) w 3 a sp.length c (qV sp) → zAB q i s sp →
  Calls Try.prog 62 #[.pointer (some ⟨q.bx, 0, none⟩), .int .i64 (i : Int), .slice a sp.length c] w (LQ q i s sp bad w)
theorem TrG.zero {ok : Nat → Prop} {w : World} : TrG ok w (.mk 0 ByteArray.empty []) [.int .i64 0, .string ByteArray.empty, .slice none 0 0] := TrG.leaf (by decide)
theorem zZ.set {ok : Nat → Prop} {w : World} {t : Tr} {c0 c1 c2 : Value} (ht : TrG ok w t [c0, c1, c2]) : ∀ {l : List Tr} {ys : List Value} (n : Nat), zZ ok w l ys → n < l.length → zZ ok w (l.set n t) (((ys.set (n * 3) c0).set (n * 3 + 1) c1).set (n * 3 + 2) c2)
  | x :: r, ys, 0, h, _ => by
    simp only [zZ] at h
    obtain ⟨d0, d1, d2, yr, rfl, h2, h3⟩ := h
    simp only [zLX, zZ]
    exact ⟨c0, c1, c2, yr, rfl, ht, h3⟩
  | x :: r, ys, n + 1, h, hn => by
    simp only [zZ] at h
    obtain ⟨d0, d1, d2, yr, rfl, h2, h3⟩ := h
    rw [show (n + 1) * 3 = n * 3 + 1 + 1 + 1 by omega]
    simp only [zLY, zZ]
    exact ⟨d0, d1, d2, _, rfl, h2, zZ.set ht n h3 (by simpa using hn)⟩
theorem zZ.zeros {ok : Nat → Prop} {w : World} : ∀ (n : Nat), zZ ok w (zLT n (.mk 0 ByteArray.empty [])) (zLT n [.int .i64 0, .string ByteArray.empty, Value.slice none 0 0]).flatten
  | 0 => by simp [zZ]
  | n + 1 => by
    simp only [zLW, List.flatten_cons, zLR, zLS, zZ]
    exact ⟨_, _, _, _, rfl, TrG.zero, zZ.zeros n⟩
theorem yO.set {ok : Nat → Prop} {w : World} {x : List Tr} {a : Option Addr} {m cap : Nat} {ys : List Value} (hm : m = x.length) (hs : Sl ok w 3 a m cap ys) (hr : zZ ok w x ys) : ∀ {ks : List (List Tr)} {xs : List Value} (n : Nat), yO ok w ks xs → n < ks.length → yO ok w (ks.set n x) (xs.set n (.slice a m cap))
  | l :: r, xs, 0, h, _ => by
    simp only [yO] at h
    obtain ⟨b, k, c, zs, xr, rfl, _, _, _, h5⟩ := h
    simp only [zLX, yO]
    exact ⟨a, m, cap, ys, xr, rfl, hm, hs, hr, h5⟩
  | l :: r, xs, n + 1, h, hn => by
    simp only [yO] at h
    obtain ⟨b, k, c, zs, xr, rfl, h2, h3, h4, h5⟩ := h
    simp only [zLY, yO]
    exact ⟨b, k, c, zs, _, rfl, h2, h3, h4, yO.set hm hs hr n h5 (by simpa using hn)⟩
theorem yO.zeros {ok : Nat → Prop} {w : World} : ∀ (n : Nat), yO ok w (zLT n []) (zLT n (Value.slice none 0 0))
  | 0 => by simp [yO]
  | n + 1 => by
    simp only [zLW, yO, zZ]
    exact ⟨none, 0, 0, [], _, rfl, rfl, Sl.nil _ _ _ _, rfl, yO.zeros n⟩
theorem zFR : ∀ (l : List Spn) (k : Nat) (p : Spn), k < l.length → (((qV l).set (k * 3) (.int .i64 (p.k : Int))).set (k * 3 + 1) (.int .i64 (p.f : Int))).set (k * 3 + 2) (.int .i64 (p.t : Int)) = qV (l.set k p)
  | x :: l, 0, p, _ => by simp [qV, spC]
  | x :: l, k + 1, p, h => by
    have := zFR l k p (by simpa using h)
    rw [show (k + 1) * 3 = k * 3 + 1 + 1 + 1 by omega]
    simp only [qV, spC, zLZ, zLR, zLS, zLY] at this ⊢
    rw [this]
theorem zDL {α : Type} {x : List α} {n m : Nat} {z t : α} (h : x.length = n) (hm : n < m) : (x ++ zLT (m - n) z).set n t = x ++ [t] ++ zLT (m - (n + 1)) z := by
  rw [List.set_append_right _ _ (by omega), h, Nat.sub_self, show m - n = (m - (n + 1)) + 1 by omega, zLW, zLX]
  simp
theorem zDm {q : BQ} {r : Int} {p : Spn} : (zM q r p).length = (zAT r (q.X p.k).r p.f p.t).length := by simp [zM]
theorem zEq {q : BQ} (hx : CX q) {r : Int} {p : Spn} (hp : zJC q p) : (zM q r p).length ≤ 1000001 := by
 have h1 := zC9 (r := r) (R := (q.X p.k).r) (f := p.f) (t := p.t)
 have h2 := hx.rd p.k hp.1
 rw [zDm]
 rw [← BQ.X_eq hp.1] at h2
 omega
theorem zH0 {q : BQ} {r : Int} {p : Spn} (hp : zJC q p) : ∀ u ∈ zM q r p, u.k = p.k ∧ zJC q u := by
 intro u hu
 unfold zM at hu
 obtain ⟨z, hz, rfl⟩ := List.mem_map.1 hu
 obtain ⟨h1, h2, h3⟩ := zHN hp.2.2 z hz
 exact ⟨rfl, hp.1, by dsimp only; omega, by have := hp.2.2; dsimp only; omega⟩
theorem zGI {q : BQ} {r : Int} {p : Spn} (h : p.f < p.t) : 0 < (zM q r p).length := by rw [zDm]; exact zGw h
theorem zJc {q : BQ} {C : Nat → List Cel} {i : Nat} {s : Sh} {sp : List Spn} (hC : yQ q C) (hix : Ix q.l (fun v => zK (par q.l) v) i s) (hn : i + s.size ≤ q.l.length) (hg : zR s) (hsp : zAB q i s sp) (h0 : 0 < sp.length) {x0 : List Tr} {r d deep : Nat}
  (hrep : qW s.rep x0.length) (hfs : ∀ t ∈ x0, fsT s t) (hd : lvD q.l i = d + dmI s.rep) (hcells : jN q C i sp fun lf => jO lf i d deep r s x0) :
  sp[0].f < sp[0].t ∧ ∃ (h2 : sp[0].f < (q.X sp[0].k).d.length), (x0 = [] ↔ s.rep ≠ 0 ∧ (q.X sp[0].k).d[sp[0].f] < (lvD q.l i : Int)) := by
 have hc := hcells 0 h0
 obtain ⟨hpk, hpo⟩ := hsp.at' 0 h0
 have hl := hsp.len
 obtain ⟨hm, hf1, hf2, hf3⟩ := zGR (q := q) (i := i) (n := s.size) (j := 0) hn (by omega)
 rw [zL3] at hm hf1 hf2 hf3
 have hkm : sp[0].k < q.m := by rw [hpk, zL3]; exact hm
 simp only [zL3] at hc
 cases hx0 : x0 with
 | nil =>
  subst hx0
  rw [zCh] at hc
  unfold xK at hc
  rw [if_pos ⟨hf1, hf2⟩] at hc
  obtain ⟨_, _, h3, h4, h5⟩ := hC.head hkm hc
  refine ⟨h3, h4, fun _ => ?_, fun _ => rfl⟩
  have hr := zFe hrep
  have hdm : dmI s.rep = 1 := by unfold dmI; rcases hr with h | h <;> rw [h] <;> rfl
  rw [h5]
  refine ⟨fun h => by rcases hr with h' | h' <;> omega, ?_⟩
  dsimp only; omega
 | cons t ts =>
  subst hx0
  have hdp := wH hf3 s i (d + dmI s.rep) (deep + rmI s.rep) r t hix hg (hfs t (by simp)) hf1 hf2
  obtain ⟨c, cs, h1, _, h3, _⟩ := hdp
  unfold jO at hc
  simp only [zB6, h1, zLR] at hc
  obtain ⟨_, _, h4, h5, h6⟩ := hC.head hkm hc
  refine ⟨h4, h5, (fun h => by cases h), fun h => ?_⟩
  have := h.2
  rw [h6] at this
  omega
theorem zIN {q : BQ} {C : Nat → List Cel} {i : Nat} {s : Sh} {sp : List Spn} (hC : yQ q C) (hix : Ix q.l (fun v => zK (par q.l) v) i s) (hn : i + s.size ≤ q.l.length) (hg : zR s) (hsp : zAB q i s sp) {x0 : List Tr} {r d deep : Nat}
  (h0 : x0 ≠ []) (hfs : ∀ t ∈ x0, fsT s t) (hd : lvD q.l i = d + dmI s.rep) (hdeep : lvR q.l i = deep + rmI s.rep) (hcells : jN q C i sp fun lf => jO lf i d deep r s x0) (j : Nat) (hj : j < sp.length) :
  (zM q (lvR q.l i : Int) sp[j]).length = x0.length ∧ ∀ (n : Nat) (h : n < x0.length) (h' : n < (zM q (lvR q.l i : Int) sp[j]).length), zCZ C (zM q (lvR q.l i : Int) sp[j])[n] = yK (q.lf (kb q.l i + j)) i (lvD q.l i) (lvR q.l i) (if n = 0 then r else lvR q.l i) s x0[n] := by
 have hc := hcells j hj
 obtain ⟨hpk, hpo⟩ := hsp.at' j hj
 have hl := hsp.len
 obtain ⟨hm, hf1, hf2, hf3⟩ := zGR (q := q) (i := i) (n := s.size) (j := j) hn (by omega)
 have hkm : sp[j].k < q.m := by rw [hpk]; exact hm
 generalize hP : sp[j] = p at *
 have hpc : Pcs (lvR q.l i) (xT (fun r' u => yK (q.lf (kb q.l i + j)) i (lvD q.l i) (lvR q.l i) r' s u) r (lvR q.l i) x0) :=
  zDk (d := lvD q.l i) (fun r' t ht => wH hf3 s i (lvD q.l i) (lvR q.l i) r' t hix hg (hfs t ht) hf1 hf2)
 have hflat : zCZ C p = (xT (fun r' u => yK (q.lf (kb q.l i + j)) i (lvD q.l i) (lvR q.l i) r' s u) r (lvR q.l i) x0).flatten := by
  rw [hc, zFF (e := xK (q.lf (kb q.l i + j)) i s r d) h0]
  unfold jO
  rw [hd, hdeep]
 have hlen := (hC.len hkm).1
 have htl : p.t ≤ (C p.k).length := by rw [← hlen]; exact hpo.2.2
 have hR : (q.X p.k).r = (C p.k).map fun c => (c.r : Int) := by rw [(hC p.k hkm).1]; rfl
 have hsplit := zC8 (C := C p.k) hpc htl hpo.2.1 hflat
 have hps : zM q (lvR q.l i : Int) p = (ivs p.f (xT (fun r' u => yK (q.lf (kb q.l i + j)) i (lvD q.l i) (lvR q.l i) r' s u) r (lvR q.l i) x0)).map fun x => ⟨p.k, x.1, x.2⟩ := by
  unfold zM
  rw [hR, hsplit]
 refine ⟨by rw [hps, List.length_map, zFg, zA7], fun n h h' => ?_⟩
 have hnp : n < (xT (fun r' u => yK (q.lf (kb q.l i + j)) i (lvD q.l i) (lvR q.l i) r' s u) r (lvR q.l i) x0).length := by rw [zA7]; exact h
 have hget := List.getElem?_map (f := fun x : Nat × Nat => (⟨p.k, x.1, x.2⟩ : Spn)) (l := ivs p.f (xT (fun r' u => yK (q.lf (kb q.l i + j)) i (lvD q.l i) (lvR q.l i) r' s u) r (lvR q.l i) x0)) (i := n)
 rw [zFh _ p.f n hnp, Option.map_some, ← hps] at hget
 rw [zLQ h'] at hget
 rw [Option.some.inj hget]
 unfold zCZ
 dsimp only
 rw [zDn hflat n hnp]
 exact zDl h hnp
def qF (q : BQ) (r : Int) (sp : List Spn) (n : Nat) : List Spn := sp.map fun p => (zM q r p).getD n ⟨0, 0, 0⟩
theorem xI {q : BQ} {r : Int} {sp : List Spn} {n : Nat} : (qF q r sp n).length = sp.length := by simp [qF]
theorem zGk {q : BQ} {i : Nat} {s : Sh} {r : Int} {sp : List Spn} {n : Nat} (hsp : zAB q i s sp) (h : ∀ (j : Nat) (hj : j < sp.length), n < (zM q r sp[j]).length) : zAB q i s (qF q r sp n) := by
 refine ⟨by rw [xI]; exact hsp.len, fun j hj => ?_⟩
 rw [xI] at hj
 have h1 := h j hj
 have h2 := hsp.at' j hj
 have e : (qF q r sp n)[j]'(by rw [xI]; exact hj) = (zM q r sp[j])[n] := by
  simp only [qF, zL2]
  rw [zLP, zLQ h1]; rfl
 rw [e]
 have := zH0 (r := r) h2.2 _ (List.getElem_mem h1)
 exact ⟨by rw [this.1]; exact h2.1, this.2⟩
theorem zCQ {q : BQ} {C : Nat → List Cel} {i : Nat} {s : Sh} {r : Int} {sp : List Spn} {n : Nat} {g : Nat → List Cel} (h : ∀ (j : Nat) (hj : j < sp.length), ∃ (h : n < (zM q r sp[j]).length), zCZ C (zM q r sp[j])[n] = g (q.lf (kb q.l i + j))) : jN q C i (qF q r sp n) g := by
 intro j hj
 rw [xI] at hj
 obtain ⟨h1, h2⟩ := h j hj
 have e : (qF q r sp n)[j]'(by rw [xI]; exact hj) = (zM q r sp[j])[n] := by
  simp only [qF, zL2]
  rw [zLP, zLQ h1]; rfl
 rw [e]; exact h2
end Go.Proofs.Ytjbkjfefjhbolaa
