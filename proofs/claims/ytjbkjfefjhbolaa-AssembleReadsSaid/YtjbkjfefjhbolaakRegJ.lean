import Derived.Test.YtjbkjfefjhbolaakBase
import Derived.StillTail
set_option linter.all false
open Bool renaming and_eq_true → zLP
open Array renaming getElem?_setIfInBounds_ne → zLQ, setIfInBounds_comm → zLW, getElem?_eq_none → zLX
open List renaming mem_cons_of_mem → zLR, filter_cons_of_neg → zLS, filter_cons_of_pos → zLT, range → zLU, mem_cons → zLV, mem_cons_self → zLZ
open Nat renaming lt_of_lt_of_le → zLY
namespace Go.Shr
open Go Go.RowKit
section
variable {P : Program} {ops : Array Oper} {Q : Exit → Act → World → Prop} {md : Region.Mode} {S : World → Prop} {F : List Nat}

def xM (P : Program) (md : Region.Mode) (ops : Array Oper) (Q : Exit → Act → World → Prop) (S : World → Prop) (F : List Nat) : Nat → Array Bool → Act → World → Prop
 | 0, listed, a, w => Region.ready md ops listed = [] ∧ Q .normal a w
 | fuel + 1, listed, a, w =>
  (Region.ready md ops listed = [] → Q .normal a w) ∧
  ∀ i ∈ Region.ready md ops listed, wpOp P ops Q i (fun a' w' => (F.contains i = false → S w') ∧ xM P md ops Q S F fuel (listed.setIfInBounds i true) a' w') a w

theorem zA4 : ∀ (fuel : Nat) (listed : Array Bool) (a : Act) (w : World), xM P md ops Q S F fuel listed a w → wpAny P md ops Q fuel listed a w
 | 0, _, _, _, h => h
 | fuel + 1, _, _, _, h => ⟨h.1, fun i hi => wpOp_mono (fun a' w' h' => zA4 fuel _ a' w' h'.2) (h.2 i hi)⟩

def zAD (md : Region.Mode) (ops : Array Oper) (listed : Array Bool) : Prop := ∀ (k : Nat) (o : Oper), ops[k]? = some o → listed.getD k false = true → ∀ e ∈ o.after, Region.binds md e = true → listed.getD e.on false = true
def zFm (md : Region.Mode) (ops : Array Oper) (listed : Array Bool) : Bool :=
 (zLU ops.size).all fun k => !listed.getD k false || match ops[k]? with
  | some o => o.after.all fun e => !Region.binds md e || listed.getD e.on false
  | none => true
theorem zB8 {listed : Array Bool} (h : zFm md ops listed = true) : zAD md ops listed := by
 intro k o ho hk e he hb
 have hlt : k < ops.size := (Array.getElem?_eq_some_iff.1 ho).1
 have h1 := List.all_eq_true.1 h k (List.mem_range.2 hlt)
 simp only [hk, ho, Bool.not_true, Bool.false_or] at h1
 have h2 := Array.all_eq_true'.1 h1 e he
 simpa [hb] using h2
theorem zAD.add {listed : Array Bool} {j : Nat} (h : zAD md ops listed) (hj : j ∈ Region.ready md ops listed) : zAD md ops (listed.setIfInBounds j true) := by
 intro k o ho hk e he hb
 by_cases hjk : j = k
 ·subst hjk
  obtain ⟨_, o', ho', hall⟩ := mem_ready.1 hj
  have : o' = o := Option.some.inj (ho'.symm.trans ho)
  subst this
  exact getD_set_true (hall e he hb)
 ·rw [getD_set_ne false hjk] at hk
  exact getD_set_true (h k o ho hk e he hb)
def yY (md : Region.Mode) (ops : Array Oper) : Nat → Nat → Nat → Bool
 | 0, _, _ => false
 | n + 1, j, i => match ops[j]? with
  | some o => o.after.any fun e => Region.binds md e && (e.on == i || yY md ops n e.on i)
  | none => false
theorem zBp {n j i : Nat} (h : yY md ops (n + 1) j i = true) : ∃ o, ops[j]? = some o ∧ ∃ e ∈ o.after, Region.binds md e = true ∧ (e.on = i ∨ yY md ops n e.on i = true) := by
 simp only [yY] at h
 split at h
 ·rename_i o ho
  obtain ⟨e, he, hb⟩ := Array.any_eq_true'.1 h
  simp only [zLP, Bool.or_eq_true, beq_iff_eq] at hb
  exact ⟨o, ho, e, he, hb⟩
 ·cases h
theorem zEz {listed : Array Bool} (hc : zAD md ops listed) : ∀ (n j i : Nat), listed.getD j false = true → yY md ops n j i = true → listed.getD i false = true
 | 0, _, _, _, h => by cases h
 | n + 1, j, i, hj, h => by
  obtain ⟨o, ho, e, he, hb, h1⟩ := zBp h
  have h2 := hc j o ho hj e he hb
  rcases h1 with rfl | h1
  ·exact h2
  ·exact zEz hc n e.on i h2 h1
theorem zAh {listed : Array Bool} (hc : zAD md ops listed) {n j i : Nat} (hj : j ∈ Region.ready md ops listed) (h : yY md ops n j i = true) : listed.getD i false = true := by
 cases n with
 | zero => cases h
 | succ n =>
  obtain ⟨o, ho, e, he, hb, h1⟩ := zBp h
  obtain ⟨_, o', ho', hall⟩ := mem_ready.1 hj
  have : o' = o := Option.some.inj (ho'.symm.trans ho)
  subst this
  rcases h1 with rfl | h1
  ·exact hall e he hb
  ·exact zEz hc n e.on i (hall e he hb) h1
def zIs (md : Region.Mode) (ops : Array Oper) (F : List Nat) (i : Nat) : Bool := !F.contains i && F.all fun j => yY md ops 6 j i

theorem zEX {i : Nat} {oi : Oper} {v : Value} (hi : ops[i]? = some oi) (hsel : ∀ (j : Nat) (o : Oper) cs b, ops[j]? = some o → o.op ≠ .select cs b) (hF : zIs md ops F i = true)
  (hQ : ∀ c a w, Q (.panic c) (a.put oi.dst v) w → Q (.panic c) a w) :
  ∀ (fuel : Nat) (listed : Array Bool) (a : Act) (w : World), zAD md ops listed →
   (∀ j oj, ops[j]? = some oj → j ≠ i → listed.getD j true = false → (∀ e ∈ oj.after, Region.binds md e = true → e.on ≠ i) → oi.apart ops oj = true) →
   i ∈ Region.ready md ops listed → YieldsIf P ops S oi v a → S w →
   xM P md ops Q S F fuel (listed.setIfInBounds i true) (a.put oi.dst v) w → xM P md ops Q S F (fuel + 1) listed a w := by
 have hF1 : F.contains i = false := by simp only [zIs, zLP, Bool.not_eq_true'] at hF; exact hF.1
 have hF2 : ∀ (listed : Array Bool) (j : Nat), zAD md ops listed → i ∈ Region.ready md ops listed → j ∈ Region.ready md ops listed → F.contains j = false := by
  intro listed j hcl hr hj
  cases hc : F.contains j with
  | false => rfl
  | true =>
   simp only [zIs, zLP] at hF
   have h1 := List.all_eq_true.1 hF.2 j (by simpa using hc)
   have h2 := zAh hcl hj h1
   have h0 := (mem_ready.1 hr).1
   rw [getD_both h0] at h2
   cases h2
 intro fuel
 induction fuel with
 | zero =>
  intro listed a w _ _ hr hy hS H
  refine ⟨fun h => (by rw [h] at hr; cases hr), fun j hj => ?_⟩
  by_cases hji : j = i
  ·subst hji; exact hy.wpOp hi hS ⟨fun _ => hS, H⟩
  ·have := ready_mono hj hji
   rw [H.1] at this
   cases this
 | succ fuel ih =>
  intro listed a w hcl hfree hr hy hS H
  refine ⟨fun h => (by rw [h] at hr; cases hr), fun j hj => ?_⟩
  by_cases hji : j = i
  ·subst hji; exact hy.wpOp hi hS ⟨fun _ => hS, H⟩
  ·have hjF := hF2 listed j hcl hr hj
   have h1 := H.2 j (ready_mono hj hji)
   obtain ⟨hjun, oj, hoj, hall⟩ := mem_ready.1 hj
   have hnot : ∀ e ∈ oj.after, Region.binds md e = true → e.on ≠ i := fun e he hb heq => by
    have h1 := hall e he hb
    have h0 := (mem_ready.1 hr).1
    rw [heq, getD_both h0] at h1
    cases h1
   have h2 := wpOp_putIf hoj (hfree j oj hoj hji hjun hnot) (fun cs b => hsel i oi cs b hi) (fun cs b => hsel j oj cs b hoj) hQ hy h1
   have hfree' : ∀ k ok, ops[k]? = some ok → k ≠ i → (listed.setIfInBounds j true).getD k true = false →
     (∀ e ∈ ok.after, Region.binds md e = true → e.on ≠ i) → oi.apart ops ok = true := fun k ok hk hki hun hno => by
    refine hfree k ok hk hki ?_ hno
    by_cases hjk : j = k
    ·subst hjk; exact hjun
    ·rw [getD_set_ne true hjk] at hun; exact hun
   refine wpOp_mono (fun a' w' h3 => ⟨h3.2.1, ih (listed.setIfInBounds j true) a' w' (hcl.add hj) hfree' (ready_mono hr (Ne.symm hji)) h3.1 (h3.2.1 hjF) ?_⟩) h2
   rw [zLW _ _ hji]
   exact h3.2.2

def zA (P : Program) (md : Region.Mode) (ops : Array Oper) (Q : Exit → Act → World → Prop) (S : World → Prop) (F : List Nat) (fuel : Nat) (listed : Array Bool) (a : Act) (w : World) (rs : List Nat) : Prop :=
 ∀ i ∈ rs, wpOp P ops Q i (fun a' w' => (F.contains i = false → S w') ∧ xM P md ops Q S F fuel (listed.setIfInBounds i true) a' w') a w
theorem zA.nil {fuel : Nat} {listed : Array Bool} {a : Act} {w : World} : zA P md ops Q S F fuel listed a w [] := fun _ h => by cases h
theorem zA.cons {fuel : Nat} {listed : Array Bool} {a : Act} {w : World} (i : Nat) {o : Oper} {rs : List Nat} (ho : ops[i]? = some o)
  (h : ∀ K' : Act → World → Prop, Shut (∀ a w, S w → (S w → xM P md ops Q S F fuel (listed.setIfInBounds i true) a w) → K' a w) → if Region.wanted o (yielded ops a.tmps) = true then Oper.wp P o a w K' Q else K' (a.put o.dst undef) w)
  (hs : zA P md ops Q S F fuel listed a w rs) : zA P md ops Q S F fuel listed a w (i :: rs) := fun j hj => by
 rcases zLV.1 hj with rfl | hj
 ·exact wpOp_step ho (fun K' hK => h K' (fun a w hS hW => hK a w ⟨fun _ => hS, hW hS⟩))
 ·exact hs j hj
theorem zA.last {fuel : Nat} {listed : Array Bool} {a : Act} {w : World} (i : Nat) {o : Oper} {rs : List Nat} (ho : ops[i]? = some o) (hF : F.contains i = true)
  (h : ∀ K' : Act → World → Prop, Shut (∀ a w, xM P md ops Q S F fuel (listed.setIfInBounds i true) a w → K' a w) → if Region.wanted o (yielded ops a.tmps) = true then Oper.wp P o a w K' Q else K' (a.put o.dst undef) w)
  (hs : zA P md ops Q S F fuel listed a w rs) : zA P md ops Q S F fuel listed a w (i :: rs) := fun j hj => by
 rcases zLV.1 hj with rfl | hj
 ·exact wpOp_step ho (fun K' hK => h K' (fun a w hW => hK a w ⟨fun h0 => (by rw [hF] at h0; cases h0), hW⟩))
 ·exact hs j hj
theorem zB (rs : List Nat) {fuel : Nat} {listed : Array Bool} {a : Act} {w : World} (hr : Region.ready md ops listed = rs) (hne : rs ≠ [])
  (h : zA P md ops Q S F fuel listed a w rs) : xM P md ops Q S F (fuel + 1) listed a w := ⟨fun h0 => absurd (hr ▸ h0) hne, hr ▸ h⟩
theorem zE {listed : Array Bool} {a : Act} {w : World} {fuel : Nat} (hr : Region.ready md ops listed = []) (h : Q .normal a w) : xM P md ops Q S F fuel listed a w := by
 cases fuel with
 | zero => exact ⟨hr, h⟩
 | succ n => exact ⟨fun _ => h, by rw [hr]; simp⟩
theorem zF {id : Nat} {a : Act} {w : World} (S : World → Prop) (F : List Nat) (hm : P.follows .mixedOrders = true) (hS : S w.drew)
  (h : S w.drew → xM P .any ops Q S F ops.size (Array.replicate ops.size false) a w.drew) : (Code.region id ops true).wp P Q a w :=
 wp_region_any hm (zA4 _ _ _ _ (h hS))
end
open Go.RowKit
def Rws (w : World) (L : List (Nat × Array Value × TypeId)) : Prop := ∀ x ∈ L, Rw w x.1 x.2.1 x.2.2
section
variable {w w' : World} {L : List (Nat × Array Value × TypeId)}
theorem Rws.nil (w : World) : Rws w [] := fun _ h => by cases h
theorem Rws.get (h : Rws w L) (i : Nat) {b : Nat} {cur : Array Value} {t : TypeId} (hi : L[i]? = some (b, cur, t)) : Rw w b cur t := h _ (List.mem_of_getElem? hi)
theorem Rws.cons {b : Nat} {cur : Array Value} {t : TypeId} (h : Rws w L) (k : Rw w b cur t) : Rws w ((b, cur, t) :: L) := fun x hx => by
 rcases zLV.1 hx with rfl | hx
 ·exact k
 ·exact h x hx
theorem Rws.tail {x} (h : Rws w (x :: L)) : Rws w L := fun y hy => h y (zLR _ hy)
theorem Rws.below (h : Rws w L) (hb : Below w.heap.size w w') : Rws w' L := fun x hx => (h x hx).below hb
theorem Rws.alloc (h : Rws w L) (o : Obj) : Rws (w.alloc o) L := h.below ((Below.refl _ _).alloc (Nat.le_refl _) o)
theorem Rws.drew (h : Rws w L) : Rws w.drew L := fun x hx => (h x hx).drew
theorem Rws.new (h : Rws w L) (cur : Array Value) (t : TypeId) : Rws (w.alloc (.cells cur t)) ((w.heap.size, cur, t) :: L) := (h.alloc _).cons (Rw.new w cur t)
theorem Rws.lt (h : Rws w L) (i : Nat) {b : Nat} {cur : Array Value} {t : TypeId} (hi : L[i]? = some (b, cur, t)) : b < w.heap.size := (h.get i hi).lt
theorem Rws.cell (h : Rws w L) (i j : Nat) {b : Nat} {cur : Array Value} {t : TypeId} {v : Value} (hi : L[i]? = some (b, cur, t)) (hj : cur[j]? = some v) : w.cell? ⟨b, j, none⟩ = some v := ((h.get i hi).cell j).trans hj
theorem Rws.frozen (h : Rws w L) (i : Nat) {b : Nat} {cur : Array Value} {t : TypeId} (hi : L[i]? = some (b, cur, t)) (j : Nat) : w.frozen? ⟨b, j, none⟩ = false := (h.get i hi).frozen j
theorem Rws.set (h : Rws w L) (i j : Nat) (u : Value) {b : Nat} {cur : Array Value} {t : TypeId} (hi : L[i]? = some (b, cur, t)) (hd : ∀ k x, L[k]? = some x → k ≠ i → x.1 ≠ b) :
  Rws (w.setCell ⟨b, j, none⟩ u) (L.set i (b, cur.setIfInBounds j u, t)) := fun x hx => by
 obtain ⟨k, hk⟩ := List.getElem?_of_mem hx
 by_cases hki : k = i
 ·subst hki
  have hlt : k < L.length := (List.getElem?_eq_some_iff.1 hi).1
  rw [List.getElem?_set_self hlt] at hk
  obtain rfl := Option.some.inj hk
  exact (h.get k hi).set j u
 ·rw [List.getElem?_set_ne (Ne.symm hki)] at hk
  exact (h.get k (b := x.1) (cur := x.2.1) (t := x.2.2) hk).other (hd k x hk hki) u
theorem Rws.other (h : Rws w L) {p : Addr} (hd : ∀ x ∈ L, x.1 ≠ p.block) (u : Value) : Rws (w.setCell p u) L := fun x hx => (h x hx).other (hd x hx) u
theorem Rws.chg {S : Nat → Prop} (h : Rws w L) (hc : Chg S w w') (hn : ∀ x ∈ L, ¬ S x.1) : Rws w' L := fun x hx => (h x hx).chg hc (hn x hx)
theorem Rws.ren {W X : World} (hW : W = X) (h : Rws X L) : Rws W L := hW ▸ h
theorem cb {p : Addr} {v : Value} (hb : Below w.heap.size w w') (h : w.cell? p = some v) : w'.cell? p = some v := (hb.cell (World.block_lt_of_cell? w p h)).trans h
theorem b0 (w : World) : Below w.heap.size w w := Below.refl _ _
theorem slb {size n cap : Nat} {a : Option Addr} {xs : List Value} (h : Sl (fun b => b < w.heap.size) w size a n cap xs) (hb : Below w.heap.size w w') : Sl (fun b => b < w'.heap.size) w' size a n cap xs :=
 ⟨h.len, h.le, h.max, h.row.imp id fun ⟨b, off, h1, h2, h3⟩ => ⟨b, off, h1, zLY h2 hb.size, fun j u hj => cb hb (h3 j u hj)⟩⟩
end
def jF (a : Act) (ds : List Nat) (t : Nat → Value) : Act := ds.foldl (fun a d => a.put (some d) (t d)) a
structure zBe (a0 : Act) (ds : List Nat) (a : Act) : Prop where
 defers : a.defers = a0.defers
 size : a.tmps.size = a0.tmps.size
 rest : ∀ s, s ∉ ds → a.tmps[s]? = a0.tmps[s]?
theorem zBe.refl (a0 : Act) (ds : List Nat) : zBe a0 ds a0 := ⟨rfl, rfl, fun _ _ => rfl⟩
theorem zBe.put {a0 : Act} {ds : List Nat} {a : Act} (h : zBe a0 ds a) {d : Nat} (hd : d ∈ ds) (v : Value) : zBe a0 ds (a.put (some d) v) :=
 ⟨h.defers, by simpa [Act.put] using h.size, fun s hs => by
  have hne : d ≠ s := fun e => hs (e ▸ hd)
  simp only [Act.put, zLQ hne]; exact h.rest s hs⟩
theorem zGV (ds : List Nat) (t : Nat → Value) : ∀ a : Act, zBe a ds (jF a ds t) ∧ ∀ s ∈ ds, s < a.tmps.size → (∀ d ∈ ds, d = s → True) → (jF a ds t).tmps[s]? = some (t s) := by
 induction ds with
 | nil => exact fun a => ⟨zBe.refl _ _, fun _ h => by cases h⟩
 | cons x r ih =>
  intro a
  obtain ⟨h1, h2⟩ := ih (a.put (some x) (t x))
  have e : jF a (x :: r) t = jF (a.put (some x) (t x)) r t := rfl
  rw [e]
  refine ⟨⟨h1.defers, by rw [h1.size]; simp [Act.put], fun s hs => ?_⟩, fun s hs hlt _ => ?_⟩
  ·rw [h1.rest s (fun h => hs (zLR _ h))]
   have hne : x ≠ s := fun e => hs (e ▸ zLZ ..)
   simp only [Act.put, zLQ hne]
  ·by_cases hr : s ∈ r
   ·exact h2 s hr (by simpa [Act.put] using hlt) (fun _ _ _ => trivial)
   ·rw [h1.rest s hr]
    rcases zLV.1 hs with rfl | h
    ·simp [Act.put, hlt]
    ·exact absurd h hr
theorem Act.ext' {a b : Act} (h1 : a.tmps = b.tmps) (h2 : a.defers = b.defers) : a = b := by cases a; cases b; cases h1; cases h2; rfl
theorem zBe.eq {a0 : Act} {ds : List Nat} {a : Act} (h : zBe a0 ds a) : a = jF a0 ds (fun s => a.tmps.getD s undef) := by
 obtain ⟨h1, h2⟩ := zGV ds (fun s => a.tmps.getD s undef) a0
 generalize hX : jF a0 ds (fun s => a.tmps.getD s undef) = X at *
 refine Act.ext' ?_ (h.defers.trans h1.defers.symm)
 apply Array.ext_getElem?
 intro s
 by_cases hs : s ∈ ds
 ·by_cases hlt : s < a0.tmps.size
  ·rw [h2 s hs hlt (fun _ _ _ => trivial)]
   have hlt2 : s < a.tmps.size := by rw [h.size]; exact hlt
   simp [Array.getD_eq_getD_getElem?, hlt2]
  ·have h4 := h.size; have h5 := h1.size
   rw [zLX (by omega), zLX (by omega)]
 ·rw [h1.rest s hs, h.rest s hs]
theorem xW (a : Act) {d e : Nat} (h : d ≠ e) (v : Value) : (a.put (some d) v).tmps.getD e undef = a.tmps.getD e undef := by
 simp [Act.put, zLQ h]
theorem zAz (a : Act) {d : Nat} (h : d < a.tmps.size) (v : Value) : (a.put (some d) v).tmps.getD d undef = v := by
 simp [Act.put, h]
theorem Rw.set2 {w : World} {c : Nat} {x0 x1 : Value} {t : TypeId} (h : Rw w c #[x0, x1] t) {u0 u1 : Value} : Rw ((w.setCell ⟨c, 0, none⟩ u0).setCell ⟨c, 1, none⟩ u1) c #[u0, u1] t := ((h.set 0 u0).set 1 u1)
theorem zKC {B : Nat} {w0 w : World} {c : Nat} (h : Below B w0 w) (hc : B ≤ c) {u0 u1 : Value} : Below B w0 ((w.setCell ⟨c, 0, none⟩ u0).setCell ⟨c, 1, none⟩ u1) := ((h.setCell (p := ⟨c, 0, none⟩) hc u0).setCell (p := ⟨c, 1, none⟩) hc u1)
theorem Rw.set3 {w : World} {c : Nat} {x0 x1 x2 : Value} {t : TypeId} (h : Rw w c #[x0, x1, x2] t) {u0 u1 u2 : Value} : Rw (((w.setCell ⟨c, 0, none⟩ u0).setCell ⟨c, 1, none⟩ u1).setCell ⟨c, 2, none⟩ u2) c #[u0, u1, u2] t := (((h.set 0 u0).set 1 u1).set 2 u2)
theorem zLx {B : Nat} {w0 w : World} {c : Nat} (h : Below B w0 w) (hc : B ≤ c) {u0 u1 u2 : Value} : Below B w0 (((w.setCell ⟨c, 0, none⟩ u0).setCell ⟨c, 1, none⟩ u1).setCell ⟨c, 2, none⟩ u2) := (((h.setCell (p := ⟨c, 0, none⟩) hc u0).setCell (p := ⟨c, 1, none⟩) hc u1).setCell (p := ⟨c, 2, none⟩) hc u2)
theorem Rw.set4 {w : World} {c : Nat} {x0 x1 x2 x3 : Value} {t : TypeId} (h : Rw w c #[x0, x1, x2, x3] t) {u0 u1 u2 u3 : Value} : Rw ((((w.setCell ⟨c, 0, none⟩ u0).setCell ⟨c, 1, none⟩ u1).setCell ⟨c, 2, none⟩ u2).setCell ⟨c, 3, none⟩ u3) c #[u0, u1, u2, u3] t := ((((h.set 0 u0).set 1 u1).set 2 u2).set 3 u3)
theorem zLw {B : Nat} {w0 w : World} {c : Nat} (h : Below B w0 w) (hc : B ≤ c) {u0 u1 u2 u3 : Value} : Below B w0 ((((w.setCell ⟨c, 0, none⟩ u0).setCell ⟨c, 1, none⟩ u1).setCell ⟨c, 2, none⟩ u2).setCell ⟨c, 3, none⟩ u3) := ((((h.setCell (p := ⟨c, 0, none⟩) hc u0).setCell (p := ⟨c, 1, none⟩) hc u1).setCell (p := ⟨c, 2, none⟩) hc u2).setCell (p := ⟨c, 3, none⟩) hc u3)
theorem zD8 {S : Nat → Prop} {w0 w : World} {c : Nat} (h : Chg S w0 w) (hc : S c) {u0 u1 u2 : Value} : Chg S w0 (((w.setCell ⟨c, 0, none⟩ u0).setCell ⟨c, 1, none⟩ u1).setCell ⟨c, 2, none⟩ u2) := (((h.setCell (p := ⟨c, 0, none⟩) (.inr hc) u0).setCell (p := ⟨c, 1, none⟩) (.inr hc) u1).setCell (p := ⟨c, 2, none⟩) (.inr hc) u2)
theorem zLv {S : Nat → Prop} {w0 w : World} {c : Nat} (h : Chg S w0 w) (hc : S c) {u0 u1 u2 u3 : Value} : Chg S w0 ((((w.setCell ⟨c, 0, none⟩ u0).setCell ⟨c, 1, none⟩ u1).setCell ⟨c, 2, none⟩ u2).setCell ⟨c, 3, none⟩ u3) := ((((h.setCell (p := ⟨c, 0, none⟩) (.inr hc) u0).setCell (p := ⟨c, 1, none⟩) (.inr hc) u1).setCell (p := ⟨c, 2, none⟩) (.inr hc) u2).setCell (p := ⟨c, 3, none⟩) (.inr hc) u3)
theorem Chg.ren {S : Nat → Prop} {W X w : World} (hW : W = X) (h : Chg S w X) : Chg S w W := hW ▸ h
theorem Sl.apart {ok : Nat → Prop} {w : World} {size n cap : Nat} {a : Option Addr} {xs : List Value} {b : Nat} {cur : Array Value} {t : TypeId} (h : Sl ok w size a n cap xs) (hr : Rw w b cur t) (j : Nat) (hj : 0 < n → ∃ u, xs[j]? = some u ∧ u ∉ cur.toList) : Sl (fun k => ok k ∧ k ≠ b) w size a n cap xs := by
 refine ⟨h.len, h.le, h.max, ?_⟩
 by_cases h0 : n = 0
 ·exact .inl h0
 ·obtain ⟨g, off, h1, h2, h3⟩ := h.pos (by omega)
  obtain ⟨u, hu1, hu2⟩ := hj (by omega)
  refine .inr ⟨g, off, h1, ⟨h2, fun e => ?_⟩, h3⟩
  subst e
  have := h3 j u hu1
  rw [hr.cell] at this
  exact hu2 (Array.mem_toList_iff.2 (Array.mem_of_getElem? this))
theorem Sl.chg' {S : Nat → Prop} {ok : Nat → Prop} {w w' : World} {size n cap : Nat} {a : Option Addr} {xs : List Value} (h : Sl ok w size a n cap xs) (hc : Chg S w w') (hn : ∀ k, ok k → k < w.heap.size ∧ ¬ S k) : Sl (fun b => b < w'.heap.size) w' size a n cap xs :=
 ⟨h.len, h.le, h.max, h.row.imp id fun ⟨b, off, h1, h2, h3⟩ => ⟨b, off, h1, zLY (hn b h2).1 hc.size, fun j u hj => hc.keep (h3 j u hj) (hn b h2).2⟩⟩
theorem Sl.ren {W X : World} {size n cap : Nat} {a : Option Addr} {xs : List Value} (hW : W = X) (h : Sl (fun b => b < X.heap.size) X size a n cap xs) : Sl (fun b => b < W.heap.size) W size a n cap xs := hW ▸ h
section
variable {P : Program} {ops : Array Oper} {Q : Exit → Act → World → Prop}
def yJ (ops : Array Oper) (i : Nat) : Nat := ((ops[i]?).bind (·.dst)).getD 0
def okJ (ops : Array Oper) (F : List Nat) (ds : List Nat) : Bool :=
 ((zLU ops.size).all fun i => F.contains i || match ops[i]? with
  | some o => (match o.dst with | some d => ds.contains d | none => false) && o.after.all (fun e => !Region.binds .any e || (decide (e.on < i) && !F.contains e.on))
  | none => false) &&
 ((zLU ops.size).all fun i => F.contains i || (zLU ops.size).all fun j => F.contains j || i == j || yJ ops i != yJ ops j) &&
 (F.all fun f => decide (f < ops.size) && (zLU ops.size).all fun i => F.contains i || yY .any ops 6 f i) && decide F.Nodup
def zAs (n : Nat) (F : List Nat) : Array Bool := ((zLU n).map fun i => !F.contains i).toArray
def ObJ (P : Program) (ops : Array Oper) (Q : Exit → Act → World → Prop) (a0 : Act) (w0 : World) (ds : List Nat) (S : World → Prop) (C : Nat → Value → World → Prop) (i : Nat) : Prop :=
 ∀ o, ops[i]? = some o → ∀ a w, zBe a0 ds a → S w → Below w0.heap.size w0 w → (∀ d, yY .any ops 6 i d = true → C d (a.tmps.getD (yJ ops d) undef) w) →
  if Region.wanted o (yielded ops a.tmps) = true then Oper.wp P o a w (fun a' w' => ∃ v, a' = a.put o.dst v ∧ Below w.heap.size w w' ∧ C i v w') Q else C i undef w
def zIC (B : Nat) (z : Array Value) (t : TypeId) (v : Value) (w : World) : Prop := ∃ b, v = .pointer (some ⟨b, 0, none⟩) ∧ B ≤ b ∧ Rw w b z t
def ObA (P : Program) (ops : Array Oper) (Q : Exit → Act → World → Prop) (i : Nat) (z : Array Value) (t : TypeId) : Prop :=
 ∀ o, ops[i]? = some o → o.guard = none ∧ ∀ a w, Oper.wp P o a w (fun a' w' => a' = a.put o.dst (.pointer (some ⟨w.heap.size, 0, none⟩)) ∧ w' = w.alloc (.cells z t)) Q
structure HJ (ops : Array Oper) (F : List Nat) (a0 : Act) (w0 : World) (ds : List Nat) (S : World → Prop) (C : Nat → Value → World → Prop) (A : List Nat) (listed : Array Bool) (a : Act) (w : World) : Prop where
 ag : zBe a0 ds a
 s : S w
 b : Below w0.heap.size w0 w
 c : ∀ i, i < ops.size → F.contains i = false → listed.getD i false = true → C i (a.tmps.getD (yJ ops i) undef) w
 d : ∀ i ∈ A, ∀ j ∈ A, i ≠ j → listed.getD i false = true → listed.getD j false = true → a.tmps.getD (yJ ops i) undef ≠ a.tmps.getD (yJ ops j) undef
def zDt (n : Nat) (F : List Nat) (listed : Array Bool) : Nat := ((zLU n).filter fun i => !F.contains i && !listed.getD i true).length
theorem zFI {l : List Nat} (hl : l.Nodup) {p q : Nat → Bool} {i : Nat} (hi : i ∈ l) (hp : p i = true) (hq : q i = false) (h : ∀ j ∈ l, j ≠ i → q j = p j) : (l.filter q).length + 1 = (l.filter p).length := by
 induction l with
 | nil => cases hi
 | cons x l ih =>
  rw [List.nodup_cons] at hl
  by_cases hx : x = i
  ·subst hx
   have : l.filter q = l.filter p := List.filter_congr fun j hj => h j (zLR _ hj) (fun e => hl.1 (e ▸ hj))
   rw [zLS (by simp [hq]), zLT hp, this]; simp
  ·have hi' : i ∈ l := by rcases zLV.1 hi with h | h; exact absurd h.symm hx; exact h
   have := ih hl.2 hi' (fun j hj => h j (zLR _ hj))
   have hxx := h x (zLZ ..) hx
   by_cases hpx : p x = true
   ·rw [zLT (by rw [hxx]; exact hpx), zLT hpx]; simp only [List.length_cons]; omega
   ·rw [zLS (by rw [hxx]; exact hpx), zLS hpx]; omega
def zY (n : Nat) (p : Nat → Prop) : Prop := ∀ i, i < n → p i
theorem zY.zero {p : Nat → Prop} : zY 0 p := fun _ h => absurd h (Nat.not_lt_zero _)
theorem zY.succ {n : Nat} {p : Nat → Prop} (h : zY n p) (k : p n) : zY (n + 1) p := fun i hi => by
 rcases Nat.lt_succ_iff_lt_or_eq.1 hi with h1 | rfl
 ·exact h i h1
 ·exact k
def CK (B : Nat) (vals : List Value) (cs : Nat → Option (Value → World → Prop)) (al : Nat → Option (Array Value × TypeId)) (i : Nat) (v : Value) (w : World) : Prop :=
 match al i with
 | some z => zIC B z.1 z.2 v w
 | none => match cs i with
  | some p => p v w
  | none => v = vals.getD i undef
theorem zIC.below {B : Nat} {z : Array Value} {t : TypeId} {v : Value} {w w' : World} (h : zIC B z t v w) (hb : Below w.heap.size w w') : zIC B z t v w' := by
 obtain ⟨b, h1, h2, h3⟩ := h; exact ⟨b, h1, h2, h3.below hb⟩
theorem ObJ.mk {a0 : Act} {w0 : World} {ds : List Nat} {S : World → Prop} {C : Nat → Value → World → Prop} {i : Nat} {o : Oper} (ho : ops[i]? = some o)
  (h : ∀ t w, S w → Below w0.heap.size w0 w → (∀ d, yY .any ops 6 i d = true → C d (t (yJ ops d)) w) → ∀ G : Prop, Shut ((
   if Region.wanted o (yielded ops (jF a0 ds t).tmps) = true then Oper.wp P o (jF a0 ds t) w (fun a' w' => ∃ v, a' = (jF a0 ds t).put o.dst v ∧ Below w.heap.size w w' ∧ C i v w') Q else C i undef w) → G) → G) : ObJ P ops Q a0 w0 ds S C i := by
 intro o' ho' a w hag hS hB hd
 obtain rfl : o = o' := Option.some.inj (ho.symm.trans ho')
 have he := hag.eq
 have := h (fun s => a.tmps.getD s undef) w hS hB hd _ (zH (fun k => k))
 rw [← he] at this
 exact this
theorem obq {C : Nat → Value → World → Prop} {i : Nat} {o : Oper} {a : Act} {w : World} {v : Value} (hw : Region.wanted o (yielded ops a.tmps) = true) (hy : (execOp a.eval o).run P w = .ok (.value v) w) (hc : C i v w) :
  if Region.wanted o (yielded ops a.tmps) = true then Oper.wp P o a w (fun a' w' => ∃ v, a' = a.put o.dst v ∧ Below w.heap.size w w' ∧ C i v w') Q else C i undef w := by
 rw [if_pos hw]
 unfold Oper.wp
 rw [hy]
 exact ⟨v, rfl, Below.refl _ _, hc⟩
theorem obc {C : Nat → Value → World → Prop} {i : Nat} {o : Oper} {a : Act} {w : World} (hw : Region.wanted o (yielded ops a.tmps) = true)
  (h : ∀ K : Act → World → Prop, Shut (∀ v w', Below w.heap.size w w' → C i v w' → K (a.put o.dst v) w') → Oper.wp P o a w K Q) :
  if Region.wanted o (yielded ops a.tmps) = true then Oper.wp P o a w (fun a' w' => ∃ v, a' = a.put o.dst v ∧ Below w.heap.size w w' ∧ C i v w') Q else C i undef w := by
 rw [if_pos hw]
 exact h _ (zH fun v w' hb hc => ⟨v, rfl, hb, hc⟩)
theorem zLB {i : Nat} {o : Oper} {z : Array Value} {t : TypeId} (ho : ops[i]? = some o) (hg : o.guard = none)
  (h : ∀ (K : Act → World → Prop) a w, Shut (K (a.put o.dst (.pointer (some ⟨w.heap.size, 0, none⟩))) (w.alloc (.cells z t))) → Oper.wp P o a w K Q) : ObA P ops Q i z t := by
 intro o' ho'
 obtain rfl : o = o' := Option.some.inj (ho.symm.trans ho')
 exact ⟨hg, fun a w => h _ a w (zH ⟨rfl, rfl⟩)⟩
theorem zJ {B : Nat} {vals : List Value} {cs : Nat → Option (Value → World → Prop)} {al : Nat → Option (Array Value × TypeId)} {i : Nat} {v c : Value} {w : World} (h : CK B vals cs al i v w) (ha : al i = none) (hc : cs i = none) (hv : vals[i]? = some c) : v = c := by
 simp only [CK, ha, hc] at h; rw [h]; simp [hv]
theorem zDX {B : Nat} {vals : List Value} {cs : Nat → Option (Value → World → Prop)} {al : Nat → Option (Array Value × TypeId)} {i : Nat} {v : Value} {w : World} (ha : al i = none) (hc : cs i = none) (hv : vals[i]? = some v) : CK B vals cs al i v w := by
 simp only [CK, ha, hc]; simp [hv]
theorem zJE {B : Nat} {vals : List Value} {cs : Nat → Option (Value → World → Prop)} {al : Nat → Option (Array Value × TypeId)} {i : Nat} {v : Value} {w : World} {z : Array Value × TypeId} (h : CK B vals cs al i v w) (ha : al i = some z) : zIC B z.1 z.2 v w := by
 simp only [CK, ha] at h; exact h
theorem xZ {B : Nat} {vals : List Value} {cs : Nat → Option (Value → World → Prop)} {al : Nat → Option (Array Value × TypeId)} {i : Nat} {v : Value} {w : World} {p : Value → World → Prop} (h : CK B vals cs al i v w) (ha : al i = none) (hc : cs i = some p) : p v w := by
 simp only [CK, ha, hc] at h; exact h
theorem jJ {B : Nat} {vals : List Value} {cs : Nat → Option (Value → World → Prop)} {al : Nat → Option (Array Value × TypeId)} {i : Nat} {v : Value} {w : World} {p : Value → World → Prop} (ha : al i = none) (hc : cs i = some p) (h : p v w) : CK B vals cs al i v w := by
 simp only [CK, ha, hc]; exact h
theorem HJ.open {F : List Nat} {a0 : Act} {w0 : World} {ds : List Nat} {S : World → Prop} {C : Nat → Value → World → Prop} {A : List Nat} {a : Act} {w : World} (h : HJ ops F a0 w0 ds S C A (zAs ops.size F) a w) :
  ∃ t, a = jF a0 ds t ∧ S w ∧ Below w0.heap.size w0 w ∧ (∀ i, i < ops.size → F.contains i = false → C i (t (yJ ops i)) w) ∧ (∀ i j, i ∈ A → j ∈ A → i ≠ j → F.contains i = false → F.contains j = false → i < ops.size → j < ops.size → t (yJ ops i) ≠ t (yJ ops j)) := by
 have hl : ∀ i, i < ops.size → F.contains i = false → (zAs ops.size F).getD i false = true := by
  intro i hi hF
  simp [zAs, hi]; simpa using hF
 exact ⟨fun s => a.tmps.getD s undef, h.ag.eq, h.s, h.b, fun i hi hF => h.c i hi hF (hl i hi hF), fun i j hi hj hne hFi hFj hsi hsj => h.d i hi j hj hne (hl i hsi hFi) (hl j hsj hFj)⟩
end
section
variable {P : Program} {ops : Array Oper} {Q : Exit → Act → World → Prop} {md : Region.Mode} {S : World → Prop} {F F' : List Nat}
theorem zDY {i : Nat} {oi : Oper} {v : Value} (hi : ops[i]? = some oi) (hsel : ∀ (j : Nat) (o : Oper) cs b, ops[j]? = some o → o.op ≠ .select cs b) (hF : F.contains i = true)
  (hQ : ∀ c a w, Q (.panic c) (a.put oi.dst v) w → Q (.panic c) a w) :
  ∀ (fuel : Nat) (listed : Array Bool) (a : Act) (w : World), zAD md ops listed →
   (∀ j oj, ops[j]? = some oj → j ≠ i → listed.getD j true = false → (∀ e ∈ oj.after, Region.binds md e = true → e.on ≠ i) → oi.apart ops oj = true) →
   i ∈ Region.ready md ops listed → YieldsIf P ops (fun _ => True) oi v a →
   xM P md ops Q S F fuel (listed.setIfInBounds i true) (a.put oi.dst v) w → xM P md ops Q S F (fuel + 1) listed a w := by
 intro fuel
 induction fuel with
 | zero =>
  intro listed a w _ _ hr hy H
  refine ⟨fun h => (by rw [h] at hr; cases hr), fun j hj => ?_⟩
  by_cases hji : j = i
  ·subst hji; exact hy.wpOp hi trivial ⟨fun h0 => (by rw [hF] at h0; cases h0), H⟩
  ·have := ready_mono hj hji
   rw [H.1] at this
   cases this
 | succ fuel ih =>
  intro listed a w hcl hfree hr hy H
  refine ⟨fun h => (by rw [h] at hr; cases hr), fun j hj => ?_⟩
  by_cases hji : j = i
  ·subst hji; exact hy.wpOp hi trivial ⟨fun h0 => (by rw [hF] at h0; cases h0), H⟩
  ·have h1 := H.2 j (ready_mono hj hji)
   obtain ⟨hjun, oj, hoj, hall⟩ := mem_ready.1 hj
   have hnot : ∀ e ∈ oj.after, Region.binds md e = true → e.on ≠ i := fun e he hb heq => by
    have h1 := hall e he hb
    have h0 := (mem_ready.1 hr).1
    rw [heq, getD_both h0] at h1
    cases h1
   have h2 := wpOp_putIf hoj (hfree j oj hoj hji hjun hnot) (fun cs b => hsel i oi cs b hi) (fun cs b => hsel j oj cs b hoj) hQ hy h1
   have hfree' : ∀ k ok, ops[k]? = some ok → k ≠ i → (listed.setIfInBounds j true).getD k true = false →
     (∀ e ∈ ok.after, Region.binds md e = true → e.on ≠ i) → oi.apart ops ok = true := fun k ok hk hki hun hno => by
    refine hfree k ok hk hki ?_ hno
    by_cases hjk : j = k
    ·subst hjk; exact hjun
    ·rw [getD_set_ne true hjk] at hun; exact hun
   refine wpOp_mono (fun a' w' h3 => ⟨h3.2.1, ih (listed.setIfInBounds j true) a' w' (hcl.add hj) hfree' (ready_mono hr (Ne.symm hji)) h3.1 ?_⟩) h2
   rw [zLW _ _ hji]
   exact h3.2.2
theorem zA0 (i : Nat) {oi : Oper} {v : Value} {fuel : Nat} {listed : Array Bool} {a : Act} {w : World} (hi : ops[i]? = some oi)
  (hB : (Region.noSelect ops && Region.free md ops listed i && (Region.ready md ops listed).contains i && F.contains i && zFm md ops listed) = true)
  (hQ : ∀ c a w, Q (.panic c) (a.put oi.dst v) w → Q (.panic c) a w) (hw : Region.wanted oi (yielded ops a.tmps) = true) (hy : ∀ w, True → (execOp a.eval oi).run P w = .ok (.value v) w)
  (h : xM P md ops Q S F fuel (listed.setIfInBounds i true) (a.put oi.dst v) w) : xM P md ops Q S F (fuel + 1) listed a w := by
 simp only [zLP] at hB
 exact zDY hi (Region.noSelect_spec hB.1.1.1.1) hB.1.2 hQ fuel listed a w (zB8 hB.2) (Region.free_spec hi hB.1.1.1.2) (by simpa using hB.1.1.2) (.inl ⟨hw, hy⟩) h
theorem zBo (hF : ∀ j, F.contains j = true → F'.contains j = true) : ∀ (fuel : Nat) (listed : Array Bool) (a : Act) (w : World), xM P md ops Q S F fuel listed a w → xM P md ops Q S F' fuel listed a w
 | 0, _, _, _, h => h
 | fuel + 1, _, _, _, h => ⟨h.1, fun i hi => wpOp_mono (fun a' w' h' => ⟨fun h0 => h'.1 (by
   cases hc : F.contains i with
   | false => rfl
   | true => rw [hF i hc] at h0; cases h0), zBo hF fuel _ a' w' h'.2⟩) (h.2 i hi)⟩
end
def zEt : List Oper → Nat → Option Oper
 | [], _ => none
 | o :: _, 0 => some o
 | _ :: r, n + 1 => zEt r n
theorem zEs : ∀ (l : List Oper) (n : Nat), zEt l n = l[n]?
 | [], n => by simp [zEt]
 | o :: r, 0 => rfl
 | o :: r, n + 1 => by simpa [zEt] using zEs r n
section
variable {P : Program} {ops : Array Oper} {Q : Exit → Act → World → Prop} {md : Region.Mode} {S : World → Prop} {F : List Nat}
theorem jB {i : Nat} {o : Oper} (h : zEt ops.toList i = some o) : ops[i]? = some o := by rw [zEs] at h; simpa using h
def tkB (md : Region.Mode) (ops : Array Oper) (F : List Nat) : List Nat → Array Bool → Bool
 | [], _ => true
 | i :: is, listed => (Region.noSelect ops && Region.free md ops listed i && (Region.ready md ops listed).contains i && zIs md ops F i && zFm md ops listed) && tkB md ops F is (listed.setIfInBounds i true)
def tkL : List Nat → Array Bool → Array Bool
 | [], listed => listed
 | i :: is, listed => tkL is (listed.setIfInBounds i true)
def YA (P : Program) (ops : Array Oper) (S : World → Prop) : List Nat → Act → (Act → Prop) → Prop
 | [], a, K => K a
 | i :: is, a, K => ∃ oi v, zEt ops.toList i = some oi ∧ YieldsIf P ops S oi v a ∧ YA P ops S is (a.put oi.dst v) K
theorem YA.nil {a : Act} {K : Act → Prop} (h : K a) : YA P ops S [] a K := h
theorem YA.take {i : Nat} {is : List Nat} {a : Act} {K : Act → Prop} {oi : Oper} {v : Value} (hi : zEt ops.toList i = some oi) (hw : Region.wanted oi (yielded ops a.tmps) = true)
  (hy : ∀ w, S w → (execOp a.eval oi).run P w = .ok (.value v) w) (h : YA P ops S is (a.put oi.dst v) K) : YA P ops S (i :: is) a K := ⟨oi, v, hi, .inl ⟨hw, hy⟩, h⟩
theorem YA.skip {i : Nat} {is : List Nat} {a : Act} {K : Act → Prop} {oi : Oper} (hi : zEt ops.toList i = some oi) (hw : Region.wanted oi (yielded ops a.tmps) = false)
  (h : YA P ops S is (a.put oi.dst undef) K) : YA P ops S (i :: is) a K := ⟨oi, undef, hi, .inr ⟨hw, rfl⟩, h⟩
theorem zD (is : List Nat) (m : Nat) {fuel : Nat} {listed : Array Bool} {a : Act} {w : World} (hB : (tkB md ops F is listed && decide (fuel = m + is.length)) = true)
  (hQ : ∀ c d v a w, Q (.panic c) (Act.put a (some d) v) w → Q (.panic c) a w) (hS : S w) (h : YA P ops S is a fun a' => xM P md ops Q S F m (tkL is listed) a' w) : xM P md ops Q S F fuel listed a w := by
 rw [zLP] at hB
 obtain ⟨hB, hf⟩ := hB
 have hf := of_decide_eq_true hf
 subst hf
 induction is generalizing listed a with
 | nil => exact h
 | cons i is ih =>
  obtain ⟨oi, v, hi, hy, h⟩ := h
  simp only [tkB, zLP] at hB
  have := ih (a := a.put oi.dst v) (listed := listed.setIfInBounds i true) h hB.2 (by simp)
  exact zEX (jB hi) (Region.noSelect_spec hB.1.1.1.1.1) hB.1.1.2 (fun c a w => match oi.dst with | none => fun h => h | some d => hQ c d v a w) _ listed a w (zB8 hB.1.2) (Region.free_spec (jB hi) hB.1.1.1.1.2) (by simpa using hB.1.1.1.2) hy hS this
theorem zA.lst {fuel : Nat} {listed : Array Bool} {a : Act} {w : World} (i : Nat) {o : Oper} {rs : List Nat} (ho : zEt ops.toList i = some o) (hF : F.contains i = true)
  (h : ∀ K' : Act → World → Prop, Shut (∀ a w, xM P md ops Q S F fuel (listed.setIfInBounds i true) a w → K' a w) → if Region.wanted o (yielded ops a.tmps) = true then Oper.wp P o a w K' Q else K' (a.put o.dst undef) w)
  (hs : zA P md ops Q S F fuel listed a w rs) : zA P md ops Q S F fuel listed a w (i :: rs) := zA.last i (jB ho) hF h hs
theorem zA.con {fuel : Nat} {listed : Array Bool} {a : Act} {w : World} (i : Nat) {o : Oper} {rs : List Nat} (ho : zEt ops.toList i = some o)
  (h : ∀ K' : Act → World → Prop, Shut (∀ a w, S w → (S w → xM P md ops Q S F fuel (listed.setIfInBounds i true) a w) → K' a w) → if Region.wanted o (yielded ops a.tmps) = true then Oper.wp P o a w K' Q else K' (a.put o.dst undef) w)
  (hs : zA P md ops Q S F fuel listed a w rs) : zA P md ops Q S F fuel listed a w (i :: rs) := zA.cons i (jB ho) h hs
end
end Go.Shr
