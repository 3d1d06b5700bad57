import Derived.Test.YtjbkjfefjhbolaakFew16
set_option linter.all false
open List renaming length_append → zLP, length_set → zLQ
namespace Go.Proofs.Ytjbkjfefjhbolaa
open Go.RowKit Go.Shr
theorem zCr {P : Program} {w : World} {o : Oper} {ac : Act} {K : Act → World → Prop} {Q : Exit → Act → World → Prop} {e : TypeId} {size : Nat} {g : Nat} {B : Nat} (s x : Operand) (t tx : TypeId)
  (ho : o.op = .call { callee := .builtin .append, args := #[s, x], argTypes := #[t, tx] })
  (i : TypeInfo) (z : Value) (bytes : Nat) (ht : P.underlying t = some (.slice e)) (hi : P.info? e = some i) (hz : i.zero = some z) (hsize : i.size = size) (hby : i.bytes = bytes) (hzs : z.cells.size = size)
  (hsv : ac.eval s = .slice (some ⟨g, 0, none⟩) 0 0) (v : Value) (hxv : ac.eval x = v) (m : Nat) (news : List Value) (hs : Src P size tx v m news w) (h63 : m ≤ maxLen) (hbytes : m * bytes ≤ 140737488355328) (hB : B ≤ w.heap.size) (hg : B ≤ g) (hl : Rw w g #[] e) (h0 : 0 < size)
  (hK : ∀ a' cap' w', Own B w' e size a' m cap' news → Below w.heap.size w w' → (∀ k, blk a' k → B ≤ k ∧ ∃ cur, Rw w' k cur e) → (0 < m → ∀ k, blk a' k → w.heap.size ≤ k) → K (ac.put o.dst (.slice a' m cap')) w') : Oper.wp P o ac w K Q := by
 obtain ⟨a', cap', w', hr, h2, h3, h4, h5⟩ := Go.Shr.jL (P := P) t tx o.type i z bytes ht hi hz hsize hby hzs (Own.bare B w e size (some ⟨g, 0, none⟩)) v m news hs (by simpa using h63) (by simpa using hbytes) hB
 simp only [Nat.zero_add, List.nil_append] at hr h2 h5
 have hbw : Below w.heap.size w w' := h3.below (Nat.le_refl _) (fun _ _ h => by omega)
 have hnew : 0 < m → ∀ k, blk a' k → w.heap.size ≤ k ∧ ∃ cur, Rw w' k cur e := by
  intro hm k hk
  rcases h2.row with h | ⟨g', cur, rfl, hg', hrow, hsz, _⟩
  ·have := h2.le; omega
  ·obtain ⟨_, _, x⟩ := hk
   have hkg : g' = k := by injection x with x; injection x
   subst hkg
   clear x
   refine ⟨?_, cur, hrow⟩
   rcases h4 g' ⟨_, _, rfl⟩ with ⟨_, _, x⟩ | h
   ·have hgg : g = g' := by injection x with x; injection x
    subst hgg
    have h6 : w'.heap[g]? = some (.cells #[] e (0, 0)) := hl.below hbw
    rw [hrow] at h6
    cases h6
    have h7 := h2.le
    have h8 : 0 < cap' * size := Nat.mul_pos (by omega) h0
    simp at hsz; omega
   ·exact h
 unfold Oper.wp execOp
 simp only [ho, resolve, invoke, builtin, Sem.run_bind, Sem.run_pure, Result.andThen_ok, List.map_toArray, List.map_cons, List.map_nil, hsv, hxv, hr]
 refine hK a' cap' w' h2 hbw (fun k hk => ?_) (fun hm k hk => (hnew hm k hk).1)
 by_cases hm : m = 0
 ·obtain ⟨rfl, rfl, _⟩ := h5 hm
  obtain ⟨_, _, x⟩ := hk
  cases x; exact ⟨hg, _, hl⟩
 ·have h6 := hnew (by omega) k hk
  exact ⟨Nat.le_trans hB h6.1, h6.2⟩
def Bt (B : Nat) (w : World) (e : TypeId) (a : Option Addr) : Prop := ∀ k, blk a k → B ≤ k ∧ ∃ cur, Rw w k cur e
structure Q9 (B : Nat) (r d : List Int) (v : List Vc) (aR : Option Addr) (cR : Nat) (aD : Option Addr) (cD : Nat) (aV : Option Addr) (cV : Nat) (w : World) : Prop where
 oR : Own B w 3 1 aR r.length cR (zQ r)
 oD : Own B w 3 1 aD d.length cD (zQ d)
 oV : Own B w 44 2 aV v.length cV (vcs v)
 tR : Bt B w 3 aR
 tD : Bt B w 3 aD
 tV : Bt B w 44 aV
 rd : 0 < d.length → ∀ k, blk aR k → ¬ blk aD k
structure QX (B U : Nat) (aR : Option Addr) (cR : Nat) (aD : Option Addr) (cD : Nat) (aV : Option Addr) (cV : Nat) (r d : List Int) (v : List Vc) (w : World) : Prop where
 row : Rw w U #[.slice aR r.length cR, .slice aD d.length cD, .slice aV v.length cV] 42
 q : Q9 B r d v aR cR aD cD aV cV w
 ge : B ≤ U
def QD (U : Nat) (X : Cl) (w : World) : Prop := ∃ (aR : Option Addr) (cR : Nat) (aD : Option Addr) (cD : Nat) (aV : Option Addr) (cV : Nat), Rw w U #[.slice aR X.r.length cR, .slice aD X.d.length cD, .slice aV X.v.length cV] 42 ∧ zBi (fun b => b < w.heap.size) w X aR cR aD cD aV cV
section
variable {B U : Nat} {aR aD aV : Option Addr} {cR cD cV : Nat} {r d : List Int} {v : List Vc} {w w' : World}
theorem Bt.below {e : TypeId} {a : Option Addr} (h : Bt B w e a) (hb : Below w.heap.size w w') : Bt B w' e a := fun k hk => ⟨(h k hk).1, (h k hk).2.imp fun _ x => x.below hb⟩
theorem Bt.chg {e : TypeId} {a : Option Addr} {S : Nat → Prop} (h : Bt B w e a) (hc : Chg S w w') (hn : ∀ k, blk a k → ¬ S k) : Bt B w' e a := fun k hk => ⟨(h k hk).1, (h k hk).2.imp fun _ x => x.chg hc (hn k hk)⟩
theorem Bt.lt {e : TypeId} {a : Option Addr} (h : Bt B w e a) {k : Nat} (hk : blk a k) : k < w.heap.size := by
 obtain ⟨_, _, x⟩ := h k hk; exact x.lt
theorem Bt.ne {e f : TypeId} {a b : Option Addr} (h : Bt B w e a) (h' : Bt B w f b) (hef : e ≠ f) : ∀ k, blk a k → ¬ blk b k := fun k hk hk' => by
 obtain ⟨_, _, x⟩ := h k hk; obtain ⟨_, _, y⟩ := h' k hk'
 have := Option.some.inj (x.symm.trans y)
 injection this with _ h2; exact hef h2
theorem Bt.box {e f : TypeId} {a : Option Addr} {cur : Array Value} (h : Bt B w e a) (hr : Rw w U cur f) (hef : e ≠ f) : ¬ blk a U := fun hk => by
 obtain ⟨_, _, x⟩ := h U hk
 have := Option.some.inj (x.symm.trans hr)
 injection this with _ h2; exact hef h2
theorem Q9.below (h : Q9 B r d v aR cR aD cD aV cV w) (hb : Below w.heap.size w w') : Q9 B r d v aR cR aD cD aV cV w' :=
 ⟨h.oR.below hb, h.oD.below hb, h.oV.below hb, h.tR.below hb, h.tD.below hb, h.tV.below hb, h.rd⟩
theorem Q9.chg {S : Nat → Prop} (h : Q9 B r d v aR cR aD cD aV cV w) (hc : Chg S w w') (h1 : ∀ k, blk aR k → ¬ S k) (h2 : ∀ k, blk aD k → ¬ S k) (h3 : ∀ k, blk aV k → ¬ S k) : Q9 B r d v aR cR aD cD aV cV w' :=
 ⟨h.oR.chg hc h1, h.oD.chg hc h2, h.oV.chg hc h3, h.tR.chg hc h1, h.tD.chg hc h2, h.tV.chg hc h3, h.rd⟩
theorem Q9.qx {W : World} {cur : Array Value} (h : Q9 B r d v aR cR aD cD aV cV W) (hr : Rw W U cur 42) (hcur : cur.size = 3) (ge : B ≤ U) :
  QX B U aR cR aD cD aV cV r d v (((W.setCell ⟨U, 0, none⟩ (.slice aR r.length cR)).setCell ⟨U, 1, none⟩ (.slice aD d.length cD)).setCell ⟨U, 2, none⟩ (.slice aV v.length cV)) := by
 have h3 : Chg (fun k => k = U) W (((W.setCell ⟨U, 0, none⟩ (.slice aR r.length cR)).setCell ⟨U, 1, none⟩ (.slice aD d.length cD)).setCell ⟨U, 2, none⟩ (.slice aV v.length cV)) := zD8 (Chg.refl (fun k => k = U) W) rfl
 have nR := h.tR.box hr (by decide); have nD := h.tD.box hr (by decide); have nV := h.tV.box hr (by decide)
 obtain ⟨l⟩ := cur
 match l, hcur with
 | [x, y, z], _ =>
 exact ⟨hr.set3, h.chg h3 (fun k hk e => nR (by have e' : k = U := e; subst e'; exact hk)) (fun k hk e => nD (by have e' : k = U := e; subst e'; exact hk)) (fun k hk e => nV (by have e' : k = U := e; subst e'; exact hk)), ge⟩
theorem QX.qd (h : QX B U aR cR aD cD aV cV r d v w) : QD U ⟨r, d, v⟩ w :=
 ⟨aR, cR, aD, cD, aV, cV, h.row, ⟨h.q.oR.sl.mono (fun k hk _ => hk) (by decide), h.q.oD.sl.mono (fun k hk _ => hk) (by decide), h.q.oV.sl.mono (fun k hk _ => hk) (by decide)⟩⟩
theorem QX.below (h : QX B U aR cR aD cD aV cV r d v w) (hb : Below w.heap.size w w') : QX B U aR cR aD cD aV cV r d v w' := ⟨h.row.below hb, h.q.below hb, h.ge⟩
theorem QD.below {X : Cl} (h : QD U X w) (hb : Below w.heap.size w w') : QD U X w' := by
 obtain ⟨aR, cR, aD, cD, aV, cV, h1, h2, h3, h4⟩ := h
 exact ⟨aR, cR, aD, cD, aV, cV, h1.below hb, ⟨slb h2 hb, slb h3 hb, slb h4 hb⟩⟩
theorem zFt {e : TypeId} {size n cap : Nat} {a : Option Addr} {xs : List Value} (h : Own B w e size a n cap xs) (hn : 0 < n) : Bt B w e a := fun k hk => by
 rcases h.row with h0 | ⟨g, cur, rfl, hg, hrow, _, _⟩
 ·have := h.le; omega
 ·obtain ⟨_, _, x⟩ := hk
  have hkg : g = k := by injection x with x; injection x
  subst hkg
  exact ⟨hg, cur, hrow⟩
theorem Bt.set {e : TypeId} {a : Option Addr} (h : Bt B w e a) (g j : Nat) (u : Value) : Bt B (w.setCell ⟨g, j, none⟩ u) e a := fun k hk => by
 obtain ⟨h1, cur, x⟩ := h k hk
 by_cases hg : k = g
 ·subst hg; exact ⟨h1, _, x.set j u⟩
 ·exact ⟨h1, cur, x.other (p := ⟨g, j, none⟩) hg u⟩
theorem Q9.u {cur : Array Value} (h : Q9 B r d v aR cR aD cD aV cV w) (row : Rw w U cur 42) (j : Nat) (u : Value) : Q9 B r d v aR cR aD cD aV cV (w.setCell ⟨U, j, none⟩ u) := by
 have hc : Chg (fun k => k = U) w (w.setCell ⟨U, j, none⟩ u) := (Chg.refl (fun k => k = U) w).setCell (p := ⟨U, j, none⟩) (.inr rfl) u
 have nR := h.tR.box row (by decide); have nD := h.tD.box row (by decide); have nV := h.tV.box row (by decide)
 exact h.chg hc (fun k hk e => nR (by have e' : k = U := e; subst e'; exact hk)) (fun k hk e => nD (by have e' : k = U := e; subst e'; exact hk)) (fun k hk e => nV (by have e' : k = U := e; subst e'; exact hk))
theorem zEE (z : List Int) (i : Nat) (u : Int) : zQ (z.set i u) = (zQ z).set i (.int .i64 u) := by simp [zQ, List.map_set]
theorem Q9.setR (h : Q9 B r d v aR cR aD cD aV cV w) (hd : 0 < d.length) {g : Nat} (ha : aR = some ⟨g, 0, none⟩) (j : Nat) (z : Int) : Q9 B (r.set j z) d v aR cR aD cD aV cV (w.setCell ⟨g, j, none⟩ (.int .i64 z)) := by
 have hg : blk aR g := ⟨_, _, ha⟩
 refine ⟨?_, h.oD.setCell (fun k hk e => ?_) _, h.oV.setCell (fun k hk e => ?_) _, h.tR.set g j _, h.tD.set g j _, h.tV.set g j _, h.rd⟩
 ·rw [zEE, zLQ]; exact h.oR.stored ha j _
 ·have e' : k = g := e
  subst e'; exact h.rd hd _ hg hk
 ·have e' : k = g := e
  subst e'; exact h.tR.ne h.tV (by decide) _ hg hk
theorem Q9.setD (h : Q9 B r d v aR cR aD cD aV cV w) (hd : 0 < d.length) {g : Nat} (ha : aD = some ⟨g, 0, none⟩) (j : Nat) (z : Int) : Q9 B r (d.set j z) v aR cR aD cD aV cV (w.setCell ⟨g, j, none⟩ (.int .i64 z)) := by
 have hg : blk aD g := ⟨_, _, ha⟩
 refine ⟨h.oR.setCell (fun k hk e => ?_) _, ?_, h.oV.setCell (fun k hk e => ?_) _, h.tR.set g j _, h.tD.set g j _, h.tV.set g j _, fun h0 => h.rd hd⟩
 ·have e' : k = g := e
  subst e'; exact h.rd hd _ hk hg
 ·rw [zEE, zLQ]; exact h.oD.stored ha j _
 ·have e' : k = g := e
  subst e'; exact h.tD.ne h.tV (by decide) _ hg hk
theorem zFN : ∀ (v : List Vc) (j : Nat) (n : Int) (s : ByteArray), (∀ x, v[j]? = some x → x.s = s) → vcs (v.set j ⟨n, s⟩) = (vcs v).set (j * 2) (.int .i64 n)
 | [], j, n, s, _ => by simp [vcs]
 | x :: v, 0, n, s, h => by simp [vcs, h x rfl]
 | x :: v, j + 1, n, s, h => by
  rw [show (j + 1) * 2 = j * 2 + 1 + 1 by omega]
  have := zFN v j n s (fun y hy => h y hy)
  simpa [vcs] using this
theorem zFM : ∀ (v : List Vc) (j : Nat) (n : Int) (s : ByteArray), (∀ x, v[j]? = some x → x.n = n) → vcs (v.set j ⟨n, s⟩) = (vcs v).set (j * 2 + 1) (.string s)
 | [], j, n, s, _ => by simp [vcs]
 | x :: v, 0, n, s, h => by simp [vcs, h x rfl]
 | x :: v, j + 1, n, s, h => by
  rw [show (j + 1) * 2 + 1 = j * 2 + 1 + 1 + 1 by omega]
  have := zFM v j n s (fun y hy => h y hy)
  simpa [vcs] using this
theorem Q9.setV (h : Q9 B r d v aR cR aD cD aV cV w) {g : Nat} (ha : aV = some ⟨g, 0, none⟩) (j : Nat) (u : Value) {v' : List Vc} (hl : v'.length = v.length) (hv : vcs v' = (vcs v).set j u) : Q9 B r d v' aR cR aD cD aV cV (w.setCell ⟨g, j, none⟩ u) := by
 have hg : blk aV g := ⟨_, _, ha⟩
 refine ⟨h.oR.setCell (fun k hk e => ?_) _, h.oD.setCell (fun k hk e => ?_) _, ?_, h.tR.set g j _, h.tD.set g j _, h.tV.set g j _, h.rd⟩
 ·have e' : k = g := e
  subst e'; exact h.tR.ne h.tV (by decide) _ hk hg
 ·have e' : k = g := e
  subst e'; exact h.tD.ne h.tV (by decide) _ hk hg
 ·rw [hv, hl]; exact h.oV.stored ha j _
theorem Q9.appR (h : Q9 B r d v aR cR aD cD aV cV w) (hd : 0 < d.length) {a' : Option Addr} {c' : Nat} {x : Int} (ho : Own B w' 3 1 a' (r.length + 1) c' (zQ r ++ [.int .i64 x])) (hc : Chg (fun k => blk aR k ∧ B ≤ k ∧ 0 < cR) w w') (hn : ∀ k, blk a' k → blk aR k ∨ w.heap.size ≤ k) : Q9 B (r ++ [x]) d v a' c' aD cD aV cV w' := by
 have hD := h.tD.chg hc (fun k hk e => h.rd hd k e.1 hk)
 have hV := h.tV.chg hc (fun k hk e => h.tR.ne h.tV (by decide) k e.1 hk)
 refine ⟨?_, h.oD.chg hc (fun k hk e => h.rd hd k e.1 hk), h.oV.chg hc (fun k hk e => h.tR.ne h.tV (by decide) k e.1 hk), (zFt ho (by omega)), hD, hV, fun _ k hk hk' => ?_⟩
 ·rw [yT, zLP]; exact ho
 ·rcases hn k hk with h1 | h1
  ·exact h.rd hd k h1 hk'
  ·have := h.tD.lt hk'; omega
theorem Q9.appD (h : Q9 B r d v aR cR aD cD aV cV w) (hd : 0 < d.length) {a' : Option Addr} {c' : Nat} {x : Int} (ho : Own B w' 3 1 a' (d.length + 1) c' (zQ d ++ [.int .i64 x])) (hc : Chg (fun k => blk aD k ∧ B ≤ k ∧ 0 < cD) w w') (hn : ∀ k, blk a' k → blk aD k ∨ w.heap.size ≤ k) : Q9 B r (d ++ [x]) v aR cR a' c' aV cV w' := by
 have hR := h.tR.chg hc (fun k hk e => h.rd hd k hk e.1)
 have hV := h.tV.chg hc (fun k hk e => h.tD.ne h.tV (by decide) k e.1 hk)
 refine ⟨h.oR.chg hc (fun k hk e => h.rd hd k hk e.1), ?_, h.oV.chg hc (fun k hk e => h.tD.ne h.tV (by decide) k e.1 hk), hR, (zFt ho (by omega)), hV, fun _ k hk hk' => ?_⟩
 ·rw [yT, zLP]; exact ho
 ·rcases hn k hk' with h1 | h1
  ·exact h.rd hd k hk h1
  ·have := h.tR.lt hk; omega
theorem Q9.appV (h : Q9 B r d v aR cR aD cD aV cV w) {a' : Option Addr} {c' : Nat} {x : Vc} (ho : Own B w' 44 2 a' (v.length + 1) c' (vcs v ++ [.int .i64 x.n, .string x.s])) (hc : Chg (fun k => blk aV k ∧ B ≤ k ∧ 0 < cV) w w') : Q9 B r d (v ++ [x]) aR cR aD cD a' c' w' := by
 refine ⟨h.oR.chg hc (fun k hk e => h.tR.ne h.tV (by decide) k hk e.1), h.oD.chg hc (fun k hk e => h.tD.ne h.tV (by decide) k hk e.1), ?_, h.tR.chg hc (fun k hk e => h.tR.ne h.tV (by decide) k hk e.1), h.tD.chg hc (fun k hk e => h.tD.ne h.tV (by decide) k hk e.1), (zFt ho (by omega)), h.rd⟩
 rw [zFL, zLP]; exact ho
theorem Q9.app0 (h : Q9 B r d v aR cR aD cD aV cV w) (hd : d.length = 0) {a' : Option Addr} {c' : Nat} {x : Int} (ho : Own B w' 3 1 a' (r.length + 1) c' (zQ r ++ [.int .i64 x])) (hc : Chg (fun k => blk aR k ∧ B ≤ k ∧ 0 < cR) w w') (row : Rw w U #[.slice aR r.length cR, .slice aD d.length cD, .slice aV v.length cV] 42) :
  QD U ⟨r ++ [x], d, v⟩ (w'.setCell ⟨U, 0, none⟩ (.slice a' (r.length + 1) c')) := by
 have nR := h.tR.box row (by decide)
 have row' := row.chg hc (fun e => nR e.1)
 have hc' : Chg (fun k => k = U) w' (w'.setCell ⟨U, 0, none⟩ (.slice a' (r.length + 1) c')) := (Chg.refl (fun k => k = U) w').setCell (p := ⟨U, 0, none⟩) (.inr rfl) _
 have hV := h.oV.chg hc (fun k hk e => h.tR.ne h.tV (by decide) k e.1 hk)
 have tV := h.tV.chg hc (fun k hk e => h.tR.ne h.tV (by decide) k e.1 hk)
 have tR := (zFt ho (by omega))
 have nR' := tR.box row' (by decide); have nV' := tV.box row' (by decide)
 have oR := ho.chg hc' (fun k hk e => nR' (by have e' : k = U := e; subst e'; exact hk))
 have oV := hV.chg hc' (fun k hk e => nV' (by have e' : k = U := e; subst e'; exact hk))
 have r2 := row'.set 0 (.slice a' (r.length + 1) c')
 refine ⟨a', c', aD, cD, aV, cV, ?_, ?_, ⟨by simpa [zQ] using hd, ?_, h.oD.max, .inl hd⟩, oV.sl.mono (fun k hk _ => hk) (by decide)⟩
 ·simpa using r2
 ·show Sl _ _ 1 a' (r ++ [x]).length c' (zQ (r ++ [x]))
  rw [yT, zLP]
  exact oR.sl.mono (fun k hk _ => hk) (by decide)
 ·have := h.oD.le; exact this
theorem QX.cut2 (h : QX B U aR cR aD cD aV cV r d v w) {I : Nat} (hr : I ≤ r.length) (hd : I ≤ d.length) : QD U ⟨r.take I, d.take I, v⟩ ((w.setCell ⟨U, 0, none⟩ (.slice aR I cR)).setCell ⟨U, 1, none⟩ (.slice aD I cD)) := by
 have q := (h.q.u h.row 0 (.slice aR I cR)).u (h.row.set 0 _) 1 (.slice aD I cD)
 have e1 : (r.take I).length = I := by simp; omega
 have e2 : (d.take I).length = I := by simp; omega
 have o1 := q.oR.less hr; have o2 := q.oD.less hd
 rw [Nat.mul_one, show (zQ r).take I = zQ (r.take I) by simp [zQ, List.map_take]] at o1
 rw [Nat.mul_one, show (zQ d).take I = zQ (d.take I) by simp [zQ, List.map_take]] at o2
 refine ⟨aR, cR, aD, cD, aV, cV, ?_, ?_, ?_, q.oV.sl.mono (fun k hk _ => hk) (by decide)⟩
 ·dsimp only
  rw [e1, e2]
  exact (h.row.set 0 _).set 1 _
 ·dsimp only
  rw [e1]; exact o1.sl.mono (fun k hk _ => hk) (by decide)
 ·dsimp only
  rw [e2]; exact o2.sl.mono (fun k hk _ => hk) (by decide)
theorem zFK : ∀ (v : List Vc) (m : Nat), (vcs v).take (m * 2) = vcs (v.take m)
 | [], m => by simp [vcs]
 | x :: v, 0 => by simp [vcs]
 | x :: v, m + 1 => by
  rw [show (m + 1) * 2 = m * 2 + 1 + 1 by omega]
  have := zFK v m
  simpa [vcs] using this
theorem QX.cutV (h : QX B U aR cR aD cD aV cV r d v w) {m : Nat} (hm : m ≤ v.length) : QD U ⟨r, d, v.take m⟩ (w.setCell ⟨U, 2, none⟩ (.slice aV m cV)) := by
 have q := h.q.u h.row 2 (.slice aV m cV)
 have e1 : (v.take m).length = m := by simp; omega
 have o1 := q.oV.less hm
 rw [zFK] at o1
 refine ⟨aR, cR, aD, cD, aV, cV, ?_, q.oR.sl.mono (fun k hk _ => hk) (by decide), q.oD.sl.mono (fun k hk _ => hk) (by decide), ?_⟩
 ·dsimp only
  rw [e1]
  exact h.row.set 2 _
 ·dsimp only
  rw [e1]; exact o1.sl.mono (fun k hk _ => hk) (by decide)
theorem QX.setR (h : QX B U aR cR aD cD aV cV r d v w) (hd : 0 < d.length) {g : Nat} (ha : aR = some ⟨g, 0, none⟩) (j : Nat) (z : Int) : QX B U aR cR aD cD aV cV (r.set j z) d v (w.setCell ⟨g, j, none⟩ (.int .i64 z)) :=
 ⟨by rw [zLQ]; exact h.row.other (p := ⟨g, j, none⟩) (fun e => h.q.tR.box h.row (by decide) (by rw [show U = g from e]; exact ⟨_, _, ha⟩)) _, h.q.setR hd ha j z, h.ge⟩
theorem QX.setD (h : QX B U aR cR aD cD aV cV r d v w) (hd : 0 < d.length) {g : Nat} (ha : aD = some ⟨g, 0, none⟩) (j : Nat) (z : Int) : QX B U aR cR aD cD aV cV r (d.set j z) v (w.setCell ⟨g, j, none⟩ (.int .i64 z)) :=
 ⟨by rw [zLQ]; exact h.row.other (p := ⟨g, j, none⟩) (fun e => h.q.tD.box h.row (by decide) (by rw [show U = g from e]; exact ⟨_, _, ha⟩)) _, h.q.setD hd ha j z, h.ge⟩
theorem QX.setV (h : QX B U aR cR aD cD aV cV r d v w) {g : Nat} (ha : aV = some ⟨g, 0, none⟩) (j : Nat) (u : Value) {v' : List Vc} (hl : v'.length = v.length) (hv : vcs v' = (vcs v).set j u) : QX B U aR cR aD cD aV cV r d v' (w.setCell ⟨g, j, none⟩ u) :=
 ⟨by rw [hl]; exact h.row.other (p := ⟨g, j, none⟩) (fun e => h.q.tV.box h.row (by decide) (by rw [show U = g from e]; exact ⟨_, _, ha⟩)) _, h.q.setV ha j u hl hv, h.ge⟩
theorem zF4 {v : List Vc} {j : Nat} {x : Vc} (h : ∀ u ∈ v, u.s.size ≤ maxLen) (hx : x.s.size ≤ maxLen) : ∀ u ∈ v.set j x, u.s.size ≤ maxLen := fun u hu => by
 rcases List.mem_or_eq_of_mem_set hu with h1 | h1
 ·exact h u h1
 ·rw [h1]; exact hx
end
theorem zGd {ok : Nat → Prop} {w : World} : ∀ {L : List Cl} {xs : List Value} (m : Nat), HdG ok w L xs → HdG ok w (L.take m) (xs.take (m * 3))
 | [], xs, m, h => by have h' : xs = [] := h; subst h'; simp [HdG]
 | x :: L, xs, 0, h => by simp [HdG]
 | x :: L, xs, m + 1, h => by
  obtain ⟨b0, e0, b1, e1, b2, e2, xr, rfl, h2, h3⟩ := h
  rw [show (m + 1) * 3 = m * 3 + 1 + 1 + 1 by omega]
  exact ⟨b0, e0, b1, e1, b2, e2, _, rfl, h2, zGd m h3⟩
theorem zGY {w : World} {a : Option Addr} {n cap : Nat} {L : List Cl} {xs : List Value} (h : xE w a n cap L xs) {m : Nat} (hm : m ≤ n) : xE w a m cap (L.take m) (xs.take (m * 3)) := by
 refine ⟨⟨?_, Nat.le_trans hm h.sl.le, h.sl.max, ?_⟩, zGd m h.hd⟩
 ·have := h.sl.len; simp; omega
 ·rcases h.sl.row with h0 | ⟨b, off, ha, hok, hc⟩
  ·exact .inl (by omega)
  ·refine .inr ⟨b, off, ha, hok, fun j u hj => hc j u ?_⟩
   rw [List.getElem?_take] at hj
   split at hj
   ·exact hj
   ·cases hj
def CJ (w : World) (v : Value) : Prop := ∃ (ca : Option Addr) (m cc : Nat) (L : List Cl) (xs : List Value), v = .slice ca m cc ∧ xE w ca m cc L xs ∧ (∀ X ∈ L, X.d.length ≤ 1000000) ∧ ∀ X ∈ L, ∀ u ∈ X.v, u.s.size ≤ maxLen
theorem CJ.below {w w' : World} {v : Value} (h : CJ w v) (hb : Below w.heap.size w w') : CJ w' v := by
 obtain ⟨ca, m, cc, L, xs, e, h1, h2⟩ := h; exact ⟨ca, m, cc, L, xs, e, h1.below hb, h2⟩
theorem zK8 {w : World} {b : Nat} {t : TypeId} {v0 v1 v2 v3 : Value} (h : Rw w b #[v0, v1, v2, v3] t) (h0 : CJ w v0) (h1 : CJ w v1) (h2 : CJ w v2) (h3 : CJ w v3) : ∀ (j : Nat), j < 4 → ∃ (ca : Option Addr) (m cc : Nat) (L : List Cl) (xs : List Value), w.cell? ⟨b, j, none⟩ = some (.slice ca m cc) ∧ xE w ca m cc L xs ∧ (∀ X ∈ L, X.d.length ≤ 1000000) ∧ ∀ X ∈ L, ∀ u ∈ X.v, u.s.size ≤ maxLen := by
 have key : ∀ (j : Nat) v, #[v0, v1, v2, v3][j]? = some v → CJ w v → ∃ (ca : Option Addr) (m cc : Nat) (L : List Cl) (xs : List Value), w.cell? ⟨b, j, none⟩ = some (.slice ca m cc) ∧ xE w ca m cc L xs ∧ (∀ X ∈ L, X.d.length ≤ 1000000) ∧ ∀ X ∈ L, ∀ u ∈ X.v, u.s.size ≤ maxLen := fun j v hv hj => by
  obtain ⟨ca, m, cc, L, xs, e, h4⟩ := hj
  exact ⟨ca, m, cc, L, xs, by rw [h.cell j, hv, e], h4⟩
 intro j hj
 match j, hj with
 | 0, _ => exact key 0 v0 rfl h0
 | 1, _ => exact key 1 v1 rfl h1
 | 2, _ => exact key 2 v2 rfl h2
 | 3, _ => exact key 3 v3 rfl h3
theorem zKU {w : World} {b : Nat} {t : TypeId} {i0 i1 i2 : Int} (h : Rw w b #[.int .i64 i0, .int .i64 i1, .int .i64 i2] t) : ∀ (j : Nat), j < 3 → ∃ n : Int, w.cell? ⟨b, j, none⟩ = some (.int .i64 n) := by
 intro j hj
 match j, hj with
 | 0, _ => exact ⟨i0, h.cell 0⟩
 | 1, _ => exact ⟨i1, h.cell 1⟩
 | 2, _ => exact ⟨i2, h.cell 2⟩
end Go.Proofs.Ytjbkjfefjhbolaa
