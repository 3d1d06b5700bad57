import Derived.Test.YtjbkjfefjhbolaakBase
import Derived.StillTail
import Derived.Lib.Hide
set_option linter.unusedSimpArgs false
set_option linter.unusedVariables false
namespace Go.Shr
open Go Go.RowKit
section
variable {P : Program} {ops : Array Oper} {Q : Exit → Act → World → Prop} {md : Region.Mode} {S : World → Prop} {F : List Nat}

def wpAnyF (P : Program) (md : Region.Mode) (ops : Array Oper) (Q : Exit → Act → World → Prop) (S : World → Prop) (F : List Nat) : Nat → Array Bool → Act → World → Prop
  | 0, listed, a, w => Region.ready md ops listed = [] ∧ Q .normal a w
  | fuel + 1, listed, a, w =>
    (Region.ready md ops listed = [] → Q .normal a w) ∧
    ∀ i ∈ Region.ready md ops listed, wpOp P ops Q i (fun a' w' => (F.contains i = false → S w') ∧ wpAnyF P md ops Q S F fuel (listed.setIfInBounds i true) a' w') a w

theorem wpAny_of_F : ∀ (fuel : Nat) (listed : Array Bool) (a : Act) (w : World), wpAnyF P md ops Q S F fuel listed a w → wpAny P md ops Q fuel listed a w
  | 0, _, _, _, h => h
  | fuel + 1, _, _, _, h => ⟨h.1, fun i hi => wpOp_mono (fun a' w' h' => wpAny_of_F fuel _ a' w' h'.2) (h.2 i hi)⟩

def Closed (md : Region.Mode) (ops : Array Oper) (listed : Array Bool) : Prop := ∀ (k : Nat) (o : Oper), ops[k]? = some o → listed.getD k false = true → ∀ e ∈ o.after, Region.binds md e = true → listed.getD e.on false = true
def closedB (md : Region.Mode) (ops : Array Oper) (listed : Array Bool) : Bool :=
  (List.range ops.size).all fun k => !listed.getD k false || match ops[k]? with
    | some o => o.after.all fun e => !Region.binds md e || listed.getD e.on false
    | none => true
theorem closedB_spec {listed : Array Bool} (h : closedB md ops listed = true) : Closed md ops listed := by
  intro k o ho hk e he hb
  have hlt : k < ops.size := (Array.getElem?_eq_some_iff.1 ho).1
  have h1 := List.all_eq_true.1 h k (List.mem_range.2 hlt)
  simp only [hk, ho, Bool.not_true, Bool.false_or] at h1
  have h2 := Array.all_eq_true'.1 h1 e he
  simpa [hb] using h2
theorem Closed.add {listed : Array Bool} {j : Nat} (h : Closed md ops listed) (hj : j ∈ Region.ready md ops listed) : Closed md ops (listed.setIfInBounds j true) := by
  intro k o ho hk e he hb
  by_cases hjk : j = k
  · subst hjk
    obtain ⟨_, o', ho', hall⟩ := mem_ready.1 hj
    have : o' = o := Option.some.inj (ho'.symm.trans ho)
    subst this
    exact getD_set_true (hall e he hb)
  · rw [getD_set_ne false hjk] at hk
    exact getD_set_true (h k o ho hk e he hb)
def waitsT (md : Region.Mode) (ops : Array Oper) : Nat → Nat → Nat → Bool
  | 0, _, _ => false
  | n + 1, j, i => match ops[j]? with
    | some o => o.after.any fun e => Region.binds md e && (e.on == i || waitsT md ops n e.on i)
    | none => false
theorem waitsT_step {n j i : Nat} (h : waitsT md ops (n + 1) j i = true) : ∃ o, ops[j]? = some o ∧ ∃ e ∈ o.after, Region.binds md e = true ∧ (e.on = i ∨ waitsT md ops n e.on i = true) := by
  simp only [waitsT] at h
  split at h
  · rename_i o ho
    obtain ⟨e, he, hb⟩ := Array.any_eq_true'.1 h
    simp only [Bool.and_eq_true, Bool.or_eq_true, beq_iff_eq] at hb
    exact ⟨o, ho, e, he, hb⟩
  · cases h
theorem listed_of {listed : Array Bool} (hc : Closed md ops listed) : ∀ (n j i : Nat), listed.getD j false = true → waitsT md ops n j i = true → listed.getD i false = true
  | 0, _, _, _, h => by cases h
  | n + 1, j, i, hj, h => by
    obtain ⟨o, ho, e, he, hb, h1⟩ := waitsT_step h
    have h2 := hc j o ho hj e he hb
    rcases h1 with rfl | h1
    · exact h2
    · exact listed_of hc n e.on i h2 h1
theorem listed_ready {listed : Array Bool} (hc : Closed md ops listed) {n j i : Nat} (hj : j ∈ Region.ready md ops listed) (h : waitsT md ops n j i = true) : listed.getD i false = true := by
  cases n with
  | zero => cases h
  | succ n =>
    obtain ⟨o, ho, e, he, hb, h1⟩ := waitsT_step h
    obtain ⟨_, o', ho', hall⟩ := mem_ready.1 hj
    have : o' = o := Option.some.inj (ho'.symm.trans ho)
    subst this
    rcases h1 with rfl | h1
    · exact hall e he hb
    · exact listed_of hc n e.on i (hall e he hb) h1
def lastB (md : Region.Mode) (ops : Array Oper) (F : List Nat) (i : Nat) : Bool := !F.contains i && F.all fun j => waitsT md ops 6 j i

theorem wpAnyF_first {i : Nat} {oi : Oper} {v : Value} (hi : ops[i]? = some oi) (hsel : ∀ (j : Nat) (o : Oper) cs b, ops[j]? = some o → o.op ≠ .select cs b) (hF : lastB md ops F i = true)
    (hQ : ∀ c a w, Q (.panic c) (a.put oi.dst v) w → Q (.panic c) a w) :
    ∀ (fuel : Nat) (listed : Array Bool) (a : Act) (w : World), Closed md ops listed →
      (∀ j oj, ops[j]? = some oj → j ≠ i → listed.getD j true = false → (∀ e ∈ oj.after, Region.binds md e = true → e.on ≠ i) → oi.apart ops oj = true) →
      i ∈ Region.ready md ops listed → YieldsIf P ops S oi v a → S w →
      wpAnyF P md ops Q S F fuel (listed.setIfInBounds i true) (a.put oi.dst v) w → wpAnyF P md ops Q S F (fuel + 1) listed a w := by
  have hF1 : F.contains i = false := by simp only [lastB, Bool.and_eq_true, Bool.not_eq_true'] at hF; exact hF.1
  have hF2 : ∀ (listed : Array Bool) (j : Nat), Closed md ops listed → i ∈ Region.ready md ops listed → j ∈ Region.ready md ops listed → F.contains j = false := by
    intro listed j hcl hr hj
    cases hc : F.contains j with
    | false => rfl
    | true =>
      simp only [lastB, Bool.and_eq_true] at hF
      have h1 := List.all_eq_true.1 hF.2 j (by simpa using hc)
      have h2 := listed_ready hcl hj h1
      have h0 := (mem_ready.1 hr).1
      rw [getD_both h0] at h2
      cases h2
  intro fuel
  induction fuel with
  | zero =>
    intro listed a w _ _ hr hy hS H
    refine ⟨fun h => (by rw [h] at hr; cases hr), fun j hj => ?_⟩
    by_cases hji : j = i
    · subst hji; exact hy.wpOp hi hS ⟨fun _ => hS, H⟩
    · have := ready_mono hj hji
      rw [H.1] at this
      cases this
  | succ fuel ih =>
    intro listed a w hcl hfree hr hy hS H
    refine ⟨fun h => (by rw [h] at hr; cases hr), fun j hj => ?_⟩
    by_cases hji : j = i
    · subst hji; exact hy.wpOp hi hS ⟨fun _ => hS, H⟩
    · have hjF := hF2 listed j hcl hr hj
      have h1 := H.2 j (ready_mono hj hji)
      obtain ⟨hjun, oj, hoj, hall⟩ := mem_ready.1 hj
      have hnot : ∀ e ∈ oj.after, Region.binds md e = true → e.on ≠ i := fun e he hb heq => by
        have h1 := hall e he hb
        have h0 := (mem_ready.1 hr).1
        rw [heq, getD_both h0] at h1
        cases h1
      have h2 := wpOp_putIf hoj (hfree j oj hoj hji hjun hnot) (fun cs b => hsel i oi cs b hi) (fun cs b => hsel j oj cs b hoj) hQ hy h1
      have hfree' : ∀ k ok, ops[k]? = some ok → k ≠ i → (listed.setIfInBounds j true).getD k true = false →
          (∀ e ∈ ok.after, Region.binds md e = true → e.on ≠ i) → oi.apart ops ok = true := fun k ok hk hki hun hno => by
        refine hfree k ok hk hki ?_ hno
        by_cases hjk : j = k
        · subst hjk; exact hjun
        · rw [getD_set_ne true hjk] at hun; exact hun
      refine wpOp_mono (fun a' w' h3 => ⟨h3.2.1, ih (listed.setIfInBounds j true) a' w' (hcl.add hj) hfree' (ready_mono hr (Ne.symm hji)) h3.1 (h3.2.1 hjF) ?_⟩) h2
      rw [Array.setIfInBounds_comm _ _ hji]
      exact h3.2.2

def AllReadyF (P : Program) (md : Region.Mode) (ops : Array Oper) (Q : Exit → Act → World → Prop) (S : World → Prop) (F : List Nat) (fuel : Nat) (listed : Array Bool) (a : Act) (w : World) (rs : List Nat) : Prop :=
  ∀ i ∈ rs, wpOp P ops Q i (fun a' w' => (F.contains i = false → S w') ∧ wpAnyF P md ops Q S F fuel (listed.setIfInBounds i true) a' w') a w
theorem AllReadyF.nil {fuel : Nat} {listed : Array Bool} {a : Act} {w : World} : AllReadyF P md ops Q S F fuel listed a w [] := fun _ h => by cases h
theorem AllReadyF.cons {fuel : Nat} {listed : Array Bool} {a : Act} {w : World} (i : Nat) {o : Oper} {rs : List Nat} (ho : ops[i]? = some o)
    (h : ∀ K' : Act → World → Prop, Shut (∀ a w, S w → (S w → wpAnyF P md ops Q S F fuel (listed.setIfInBounds i true) a w) → K' a w) → if Region.wanted o (yielded ops a.tmps) = true then Oper.wp P o a w K' Q else K' (a.put o.dst undef) w)
    (hs : AllReadyF P md ops Q S F fuel listed a w rs) : AllReadyF P md ops Q S F fuel listed a w (i :: rs) := fun j hj => by
  rcases List.mem_cons.1 hj with rfl | hj
  · exact wpOp_step ho (fun K' hK => h K' (fun a w hS hW => hK a w ⟨fun _ => hS, hW hS⟩))
  · exact hs j hj
theorem AllReadyF.last {fuel : Nat} {listed : Array Bool} {a : Act} {w : World} (i : Nat) {o : Oper} {rs : List Nat} (ho : ops[i]? = some o) (hF : F.contains i = true)
    (h : ∀ K' : Act → World → Prop, Shut (∀ a w, wpAnyF P md ops Q S F fuel (listed.setIfInBounds i true) a w → K' a w) → if Region.wanted o (yielded ops a.tmps) = true then Oper.wp P o a w K' Q else K' (a.put o.dst undef) w)
    (hs : AllReadyF P md ops Q S F fuel listed a w rs) : AllReadyF P md ops Q S F fuel listed a w (i :: rs) := fun j hj => by
  rcases List.mem_cons.1 hj with rfl | hj
  · exact wpOp_step ho (fun K' hK => h K' (fun a w hW => hK a w ⟨fun h0 => (by rw [hF] at h0; cases h0), hW⟩))
  · exact hs j hj
theorem wpAnyF_ready (rs : List Nat) {fuel : Nat} {listed : Array Bool} {a : Act} {w : World} (hr : Region.ready md ops listed = rs) (hne : rs ≠ [])
    (h : AllReadyF P md ops Q S F fuel listed a w rs) : wpAnyF P md ops Q S F (fuel + 1) listed a w := ⟨fun h0 => absurd (hr ▸ h0) hne, hr ▸ h⟩
theorem wpAnyF_done {listed : Array Bool} {a : Act} {w : World} {fuel : Nat} (hr : Region.ready md ops listed = []) (h : Q .normal a w) : wpAnyF P md ops Q S F fuel listed a w := by
  cases fuel with
  | zero => exact ⟨hr, h⟩
  | succ n => exact ⟨fun _ => h, by rw [hr]; simp⟩
theorem wp_region_F {id : Nat} {a : Act} {w : World} (S : World → Prop) (F : List Nat) (hm : P.follows .mixedOrders = true) (hS : S w.drew)
    (h : S w.drew → wpAnyF P .any ops Q S F ops.size (Array.replicate ops.size false) a w.drew) : (Code.region id ops true).wp P Q a w :=
  wp_region_any hm (wpAny_of_F _ _ _ _ (h hS))
end
end Go.Shr
namespace Go.Shr
open Go.RowKit
def Rws (w : World) (L : List (Nat × Array Value × TypeId)) : Prop := ∀ x ∈ L, Rw w x.1 x.2.1 x.2.2
section
variable {w w' : World} {L : List (Nat × Array Value × TypeId)}
theorem Rws.nil (w : World) : Rws w [] := fun _ h => by cases h
theorem Rws.get (h : Rws w L) (i : Nat) {b : Nat} {cur : Array Value} {t : TypeId} (hi : L[i]? = some (b, cur, t)) : Rw w b cur t := h _ (List.mem_of_getElem? hi)
theorem Rws.cons {b : Nat} {cur : Array Value} {t : TypeId} (h : Rws w L) (k : Rw w b cur t) : Rws w ((b, cur, t) :: L) := fun x hx => by
  rcases List.mem_cons.1 hx with rfl | hx
  · exact k
  · exact h x hx
theorem Rws.tail {x} (h : Rws w (x :: L)) : Rws w L := fun y hy => h y (List.mem_cons_of_mem _ hy)
theorem Rws.below (h : Rws w L) (hb : Below w.heap.size w w') : Rws w' L := fun x hx => (h x hx).below hb
theorem Rws.alloc (h : Rws w L) (o : Obj) : Rws (w.alloc o) L := h.below ((Below.refl _ _).alloc (Nat.le_refl _) o)
theorem Rws.drew (h : Rws w L) : Rws w.drew L := fun x hx => (h x hx).drew
theorem Rws.new (h : Rws w L) (cur : Array Value) (t : TypeId) : Rws (w.alloc (.cells cur t)) ((w.heap.size, cur, t) :: L) := (h.alloc _).cons (Rw.new w cur t)
theorem Rws.lt (h : Rws w L) (i : Nat) {b : Nat} {cur : Array Value} {t : TypeId} (hi : L[i]? = some (b, cur, t)) : b < w.heap.size := (h.get i hi).lt
theorem Rws.cell (h : Rws w L) (i j : Nat) {b : Nat} {cur : Array Value} {t : TypeId} {v : Value} (hi : L[i]? = some (b, cur, t)) (hj : cur[j]? = some v) : w.cell? ⟨b, j, none⟩ = some v := ((h.get i hi).cell j).trans hj
theorem Rws.frozen (h : Rws w L) (i : Nat) {b : Nat} {cur : Array Value} {t : TypeId} (hi : L[i]? = some (b, cur, t)) (j : Nat) : w.frozen? ⟨b, j, none⟩ = false := (h.get i hi).frozen j
theorem Rws.set (h : Rws w L) (i j : Nat) (u : Value) {b : Nat} {cur : Array Value} {t : TypeId} (hi : L[i]? = some (b, cur, t)) (hd : ∀ k x, L[k]? = some x → k ≠ i → x.1 ≠ b) :
    Rws (w.setCell ⟨b, j, none⟩ u) (L.set i (b, cur.setIfInBounds j u, t)) := fun x hx => by
  obtain ⟨k, hk⟩ := List.getElem?_of_mem hx
  by_cases hki : k = i
  · subst hki
    have hlt : k < L.length := (List.getElem?_eq_some_iff.1 hi).1
    rw [List.getElem?_set_self hlt] at hk
    obtain rfl := Option.some.inj hk
    exact (h.get k hi).set j u
  · rw [List.getElem?_set_ne (Ne.symm hki)] at hk
    exact (h.get k (b := x.1) (cur := x.2.1) (t := x.2.2) hk).other (hd k x hk hki) u
theorem Rws.other (h : Rws w L) {p : Addr} (hd : ∀ x ∈ L, x.1 ≠ p.block) (u : Value) : Rws (w.setCell p u) L := fun x hx => (h x hx).other (hd x hx) u
theorem Rws.chg {S : Nat → Prop} (h : Rws w L) (hc : Chg S w w') (hn : ∀ x ∈ L, ¬ S x.1) : Rws w' L := fun x hx => (h x hx).chg hc (hn x hx)
theorem Rws.ren {W X : World} (hW : W = X) (h : Rws X L) : Rws W L := hW ▸ h
theorem cb {p : Addr} {v : Value} (hb : Below w.heap.size w w') (h : w.cell? p = some v) : w'.cell? p = some v := (hb.cell (World.block_lt_of_cell? w p h)).trans h
theorem b0 (w : World) : Below w.heap.size w w := Below.refl _ _
theorem slb {size n cap : Nat} {a : Option Addr} {xs : List Value} (h : Sl (fun b => b < w.heap.size) w size a n cap xs) (hb : Below w.heap.size w w') : Sl (fun b => b < w'.heap.size) w' size a n cap xs :=
  ⟨h.len, h.le, h.max, h.row.imp id fun ⟨b, off, h1, h2, h3⟩ => ⟨b, off, h1, Nat.lt_of_lt_of_le h2 hb.size, fun j u hj => cb hb (h3 j u hj)⟩⟩
end
end Go.Shr
namespace Go.Shr
open Go Go.RowKit
def frOf (a : Act) (ds : List Nat) (t : Nat → Value) : Act := ds.foldl (fun a d => a.put (some d) (t d)) a
structure Agree (a0 : Act) (ds : List Nat) (a : Act) : Prop where
  defers : a.defers = a0.defers
  size : a.tmps.size = a0.tmps.size
  rest : ∀ s, s ∉ ds → a.tmps[s]? = a0.tmps[s]?
theorem Agree.refl (a0 : Act) (ds : List Nat) : Agree a0 ds a0 := ⟨rfl, rfl, fun _ _ => rfl⟩
theorem Agree.put {a0 : Act} {ds : List Nat} {a : Act} (h : Agree a0 ds a) {d : Nat} (hd : d ∈ ds) (v : Value) : Agree a0 ds (a.put (some d) v) :=
  ⟨h.defers, by simpa [Act.put] using h.size, fun s hs => by
    have hne : d ≠ s := fun e => hs (e ▸ hd)
    simp only [Act.put, Array.getElem?_setIfInBounds_ne hne]; exact h.rest s hs⟩
theorem frOf_agree (ds : List Nat) (t : Nat → Value) : ∀ a : Act, Agree a ds (frOf a ds t) ∧ ∀ s ∈ ds, s < a.tmps.size → (∀ d ∈ ds, d = s → True) → (frOf a ds t).tmps[s]? = some (t s) := by
  induction ds with
  | nil => exact fun a => ⟨Agree.refl _ _, fun _ h => by cases h⟩
  | cons x r ih =>
    intro a
    obtain ⟨h1, h2⟩ := ih (a.put (some x) (t x))
    have e : frOf a (x :: r) t = frOf (a.put (some x) (t x)) r t := rfl
    rw [e]
    refine ⟨⟨h1.defers, by rw [h1.size]; simp [Act.put], fun s hs => ?_⟩, fun s hs hlt _ => ?_⟩
    · rw [h1.rest s (fun h => hs (List.mem_cons_of_mem _ h))]
      have hne : x ≠ s := fun e => hs (e ▸ List.mem_cons_self ..)
      simp only [Act.put, Array.getElem?_setIfInBounds_ne hne]
    · by_cases hr : s ∈ r
      · exact h2 s hr (by simpa [Act.put] using hlt) (fun _ _ _ => trivial)
      · rw [h1.rest s hr]
        rcases List.mem_cons.1 hs with rfl | h
        · simp [Act.put, hlt]
        · exact absurd h hr
theorem Act.ext' {a b : Act} (h1 : a.tmps = b.tmps) (h2 : a.defers = b.defers) : a = b := by cases a; cases b; cases h1; cases h2; rfl
theorem Agree.eq {a0 : Act} {ds : List Nat} {a : Act} (h : Agree a0 ds a) : a = frOf a0 ds (fun s => a.tmps.getD s undef) := by
  obtain ⟨h1, h2⟩ := frOf_agree ds (fun s => a.tmps.getD s undef) a0
  generalize hX : frOf a0 ds (fun s => a.tmps.getD s undef) = X at *
  refine Act.ext' ?_ (h.defers.trans h1.defers.symm)
  apply Array.ext_getElem?
  intro s
  by_cases hs : s ∈ ds
  · by_cases hlt : s < a0.tmps.size
    · rw [h2 s hs hlt (fun _ _ _ => trivial)]
      have hlt2 : s < a.tmps.size := by rw [h.size]; exact hlt
      simp [Array.getD_eq_getD_getElem?, hlt2]
    · have h4 := h.size; have h5 := h1.size
      rw [Array.getElem?_eq_none (by omega), Array.getElem?_eq_none (by omega)]
  · rw [h1.rest s hs, h.rest s hs]
theorem getD_put_ne (a : Act) {d e : Nat} (h : d ≠ e) (v : Value) : (a.put (some d) v).tmps.getD e undef = a.tmps.getD e undef := by
  simp [Act.put, Array.getElem?_setIfInBounds_ne h]
theorem getD_put_eq (a : Act) {d : Nat} (h : d < a.tmps.size) (v : Value) : (a.put (some d) v).tmps.getD d undef = v := by
  simp [Act.put, h]
theorem Rw.set2 {w : World} {c : Nat} {x0 x1 : Value} {t : TypeId} (h : Rw w c #[x0, x1] t) {u0 u1 : Value} : Rw ((w.setCell ⟨c, 0, none⟩ u0).setCell ⟨c, 1, none⟩ u1) c #[u0, u1] t := ((h.set 0 u0).set 1 u1)
theorem bset2 {B : Nat} {w0 w : World} {c : Nat} (h : Below B w0 w) (hc : B ≤ c) {u0 u1 : Value} : Below B w0 ((w.setCell ⟨c, 0, none⟩ u0).setCell ⟨c, 1, none⟩ u1) := ((h.setCell (p := ⟨c, 0, none⟩) hc u0).setCell (p := ⟨c, 1, none⟩) hc u1)
theorem Rw.set3 {w : World} {c : Nat} {x0 x1 x2 : Value} {t : TypeId} (h : Rw w c #[x0, x1, x2] t) {u0 u1 u2 : Value} : Rw (((w.setCell ⟨c, 0, none⟩ u0).setCell ⟨c, 1, none⟩ u1).setCell ⟨c, 2, none⟩ u2) c #[u0, u1, u2] t := (((h.set 0 u0).set 1 u1).set 2 u2)
theorem bset3 {B : Nat} {w0 w : World} {c : Nat} (h : Below B w0 w) (hc : B ≤ c) {u0 u1 u2 : Value} : Below B w0 (((w.setCell ⟨c, 0, none⟩ u0).setCell ⟨c, 1, none⟩ u1).setCell ⟨c, 2, none⟩ u2) := (((h.setCell (p := ⟨c, 0, none⟩) hc u0).setCell (p := ⟨c, 1, none⟩) hc u1).setCell (p := ⟨c, 2, none⟩) hc u2)
theorem Rw.set4 {w : World} {c : Nat} {x0 x1 x2 x3 : Value} {t : TypeId} (h : Rw w c #[x0, x1, x2, x3] t) {u0 u1 u2 u3 : Value} : Rw ((((w.setCell ⟨c, 0, none⟩ u0).setCell ⟨c, 1, none⟩ u1).setCell ⟨c, 2, none⟩ u2).setCell ⟨c, 3, none⟩ u3) c #[u0, u1, u2, u3] t := ((((h.set 0 u0).set 1 u1).set 2 u2).set 3 u3)
theorem bset4 {B : Nat} {w0 w : World} {c : Nat} (h : Below B w0 w) (hc : B ≤ c) {u0 u1 u2 u3 : Value} : Below B w0 ((((w.setCell ⟨c, 0, none⟩ u0).setCell ⟨c, 1, none⟩ u1).setCell ⟨c, 2, none⟩ u2).setCell ⟨c, 3, none⟩ u3) := ((((h.setCell (p := ⟨c, 0, none⟩) hc u0).setCell (p := ⟨c, 1, none⟩) hc u1).setCell (p := ⟨c, 2, none⟩) hc u2).setCell (p := ⟨c, 3, none⟩) hc u3)
theorem cset3 {S : Nat → Prop} {w0 w : World} {c : Nat} (h : Chg S w0 w) (hc : S c) {u0 u1 u2 : Value} : Chg S w0 (((w.setCell ⟨c, 0, none⟩ u0).setCell ⟨c, 1, none⟩ u1).setCell ⟨c, 2, none⟩ u2) := (((h.setCell (p := ⟨c, 0, none⟩) (.inr hc) u0).setCell (p := ⟨c, 1, none⟩) (.inr hc) u1).setCell (p := ⟨c, 2, none⟩) (.inr hc) u2)
theorem cset4 {S : Nat → Prop} {w0 w : World} {c : Nat} (h : Chg S w0 w) (hc : S c) {u0 u1 u2 u3 : Value} : Chg S w0 ((((w.setCell ⟨c, 0, none⟩ u0).setCell ⟨c, 1, none⟩ u1).setCell ⟨c, 2, none⟩ u2).setCell ⟨c, 3, none⟩ u3) := ((((h.setCell (p := ⟨c, 0, none⟩) (.inr hc) u0).setCell (p := ⟨c, 1, none⟩) (.inr hc) u1).setCell (p := ⟨c, 2, none⟩) (.inr hc) u2).setCell (p := ⟨c, 3, none⟩) (.inr hc) u3)
theorem Chg.ren {S : Nat → Prop} {W X w : World} (hW : W = X) (h : Chg S w X) : Chg S w W := hW ▸ h
theorem Sl.apart {ok : Nat → Prop} {w : World} {size n cap : Nat} {a : Option Addr} {xs : List Value} {b : Nat} {cur : Array Value} {t : TypeId} (h : Sl ok w size a n cap xs) (hr : Rw w b cur t) (j : Nat) (hj : 0 < n → ∃ u, xs[j]? = some u ∧ u ∉ cur.toList) : Sl (fun k => ok k ∧ k ≠ b) w size a n cap xs := by
  refine ⟨h.len, h.le, h.max, ?_⟩
  by_cases h0 : n = 0
  · exact .inl h0
  · obtain ⟨g, off, h1, h2, h3⟩ := h.pos (by omega)
    obtain ⟨u, hu1, hu2⟩ := hj (by omega)
    refine .inr ⟨g, off, h1, ⟨h2, fun e => ?_⟩, h3⟩
    subst e
    have := h3 j u hu1
    rw [hr.cell] at this
    exact hu2 (Array.mem_toList_iff.2 (Array.mem_of_getElem? this))
theorem Sl.chg' {S : Nat → Prop} {ok : Nat → Prop} {w w' : World} {size n cap : Nat} {a : Option Addr} {xs : List Value} (h : Sl ok w size a n cap xs) (hc : Chg S w w') (hn : ∀ k, ok k → k < w.heap.size ∧ ¬ S k) : Sl (fun b => b < w'.heap.size) w' size a n cap xs :=
  ⟨h.len, h.le, h.max, h.row.imp id fun ⟨b, off, h1, h2, h3⟩ => ⟨b, off, h1, Nat.lt_of_lt_of_le (hn b h2).1 hc.size, fun j u hj => hc.keep (h3 j u hj) (hn b h2).2⟩⟩
theorem Sl.ren {W X : World} {size n cap : Nat} {a : Option Addr} {xs : List Value} (hW : W = X) (h : Sl (fun b => b < X.heap.size) X size a n cap xs) : Sl (fun b => b < W.heap.size) W size a n cap xs := hW ▸ h
section
variable {P : Program} {ops : Array Oper} {Q : Exit → Act → World → Prop}
def dstOf (ops : Array Oper) (i : Nat) : Nat := ((ops[i]?).bind (·.dst)).getD 0
def okJ (ops : Array Oper) (F : List Nat) (ds : List Nat) : Bool :=
  ((List.range ops.size).all fun i => F.contains i || match ops[i]? with
    | some o => (match o.dst with | some d => ds.contains d | none => false) && o.after.all (fun e => !Region.binds .any e || (decide (e.on < i) && !F.contains e.on))
    | none => false) &&
  ((List.range ops.size).all fun i => F.contains i || (List.range ops.size).all fun j => F.contains j || i == j || dstOf ops i != dstOf ops j) &&
  (F.all fun f => decide (f < ops.size) && (List.range ops.size).all fun i => F.contains i || waitsT .any ops 6 f i) && decide F.Nodup
def listF (n : Nat) (F : List Nat) : Array Bool := ((List.range n).map fun i => !F.contains i).toArray
def ObJ (P : Program) (ops : Array Oper) (Q : Exit → Act → World → Prop) (a0 : Act) (w0 : World) (ds : List Nat) (S : World → Prop) (C : Nat → Value → World → Prop) (i : Nat) : Prop :=
  ∀ o, ops[i]? = some o → ∀ a w, Agree a0 ds a → S w → Below w0.heap.size w0 w → (∀ d, waitsT .any ops 6 i d = true → C d (a.tmps.getD (dstOf ops d) undef) w) →
    if Region.wanted o (yielded ops a.tmps) = true then Oper.wp P o a w (fun a' w' => ∃ v, a' = a.put o.dst v ∧ Below w.heap.size w w' ∧ C i v w') Q else C i undef w
def NewZ (B : Nat) (z : Array Value) (t : TypeId) (v : Value) (w : World) : Prop := ∃ b, v = .pointer (some ⟨b, 0, none⟩) ∧ B ≤ b ∧ Rw w b z t
def ObA (P : Program) (ops : Array Oper) (Q : Exit → Act → World → Prop) (i : Nat) (z : Array Value) (t : TypeId) : Prop :=
  ∀ o, ops[i]? = some o → o.guard = none ∧ ∀ a w, Oper.wp P o a w (fun a' w' => a' = a.put o.dst (.pointer (some ⟨w.heap.size, 0, none⟩)) ∧ w' = w.alloc (.cells z t)) Q
structure HJ (ops : Array Oper) (F : List Nat) (a0 : Act) (w0 : World) (ds : List Nat) (S : World → Prop) (C : Nat → Value → World → Prop) (A : List Nat) (listed : Array Bool) (a : Act) (w : World) : Prop where
  ag : Agree a0 ds a
  s : S w
  b : Below w0.heap.size w0 w
  c : ∀ i, i < ops.size → F.contains i = false → listed.getD i false = true → C i (a.tmps.getD (dstOf ops i) undef) w
  d : ∀ i ∈ A, ∀ j ∈ A, i ≠ j → listed.getD i false = true → listed.getD j false = true → a.tmps.getD (dstOf ops i) undef ≠ a.tmps.getD (dstOf ops j) undef
def leftJ (n : Nat) (F : List Nat) (listed : Array Bool) : Nat := ((List.range n).filter fun i => !F.contains i && !listed.getD i true).length
theorem filter_less {l : List Nat} (hl : l.Nodup) {p q : Nat → Bool} {i : Nat} (hi : i ∈ l) (hp : p i = true) (hq : q i = false) (h : ∀ j ∈ l, j ≠ i → q j = p j) : (l.filter q).length + 1 = (l.filter p).length := by
  induction l with
  | nil => cases hi
  | cons x l ih =>
    rw [List.nodup_cons] at hl
    by_cases hx : x = i
    · subst hx
      have : l.filter q = l.filter p := List.filter_congr fun j hj => h j (List.mem_cons_of_mem _ hj) (fun e => hl.1 (e ▸ hj))
      rw [List.filter_cons_of_neg (by simp [hq]), List.filter_cons_of_pos hp, this]; simp
    · have hi' : i ∈ l := by rcases List.mem_cons.1 hi with h | h; exact absurd h.symm hx; exact h
      have := ih hl.2 hi' (fun j hj => h j (List.mem_cons_of_mem _ hj))
      have hxx := h x (List.mem_cons_self ..) hx
      by_cases hpx : p x = true
      · rw [List.filter_cons_of_pos (by rw [hxx]; exact hpx), List.filter_cons_of_pos hpx]; simp only [List.length_cons]; omega
      · rw [List.filter_cons_of_neg (by rw [hxx]; exact hpx), List.filter_cons_of_neg hpx]; omega
theorem wpAny_J {F : List Nat} {a0 : Act} {w0 : World} {ds : List Nat} {S : World → Prop} {C : Nat → Value → World → Prop} {A : List Nat} {Z : Nat → Array Value × TypeId}
    (hok : okJ ops F ds = true) (hlt : ∀ d ∈ ds, d < a0.tmps.size) (hS : ∀ w w', Below w.heap.size w w' → S w → S w') (hC : ∀ i v w w', Below w.heap.size w w' → C i v w → C i v w')
    (hCA : ∀ i ∈ A, C i = NewZ w0.heap.size (Z i).1 (Z i).2)
    (hob : ∀ i, i < ops.size → F.contains i = false → A.contains i = false → ObJ P ops Q a0 w0 ds S C i) (hal : ∀ i ∈ A, ObA P ops Q i (Z i).1 (Z i).2)
    (hend : ∀ a w, HJ ops F a0 w0 ds S C A (listF ops.size F) a w → wpAny P .any ops Q F.length (listF ops.size F) a w) :
    ∀ (m : Nat) (listed : Array Bool) (a : Act) (w : World), leftJ ops.size F listed = m → listed.size = ops.size → Closed .any ops listed → (∀ f ∈ F, listed.getD f true = false) → HJ ops F a0 w0 ds S C A listed a w → wpAny P .any ops Q (m + F.length) listed a w := by
  simp only [okJ, Bool.and_eq_true] at hok
  obtain ⟨⟨⟨hok1, hok2⟩, hok3⟩, hok4⟩ := hok
  have k1 : ∀ i o, ops[i]? = some o → F.contains i = false → (∃ d, o.dst = some d ∧ d ∈ ds) ∧ ∀ e ∈ o.after, Region.binds .any e = true → e.on < i ∧ F.contains e.on = false := by
    intro i o ho hF
    have hi := (Array.getElem?_eq_some_iff.1 ho).1
    have h1 := List.all_eq_true.1 hok1 i (List.mem_range.2 hi)
    simp only [hF, Bool.false_or, ho, Bool.and_eq_true] at h1
    refine ⟨?_, fun e he hb => ?_⟩
    · cases hd : o.dst with
      | none => rw [hd] at h1; simp at h1
      | some d => rw [hd] at h1; exact ⟨d, rfl, by simpa using h1.1⟩
    · have := Array.all_eq_true'.1 h1.2 e he
      simpa [hb] using this
  have k2 : ∀ i j, i < ops.size → j < ops.size → F.contains i = false → F.contains j = false → i ≠ j → dstOf ops i ≠ dstOf ops j := by
    intro i j hi hj hFi hFj hne
    have h1 := List.all_eq_true.1 hok2 i (List.mem_range.2 hi)
    simp only [hFi, Bool.false_or] at h1
    have h2 := List.all_eq_true.1 h1 j (List.mem_range.2 hj)
    rw [hFj] at h2; simpa [hne] using h2
  have k3 : ∀ f ∈ F, ∀ i, i < ops.size → F.contains i = false → waitsT .any ops 6 f i = true := by
    intro f hf i hi hFi
    have h1 := List.all_eq_true.1 hok3 f hf
    simp only [Bool.and_eq_true] at h1
    have h2 := List.all_eq_true.1 h1.2 i (List.mem_range.2 hi)
    rw [hFi] at h2; simpa using h2
  intro m
  induction m with
  | zero =>
    intro listed a w hm hsz hcl hF hJ
    have hall : ∀ i, i < ops.size → F.contains i = false → listed.getD i true = true := by
      intro i hi hFi
      cases h : listed.getD i true with
      | true => rfl
      | false =>
        have : i ∈ (List.range ops.size).filter fun i => !F.contains i && !listed.getD i true := by
          rw [List.mem_filter]; exact ⟨List.mem_range.2 hi, by rw [hFi, h]; rfl⟩
        unfold leftJ at hm
        rw [List.length_eq_zero_iff.1 hm] at this
        cases this
    have e : listed = listF ops.size F := by
      apply Array.ext
      · simp [listF, hsz]
      · intro i h1 h2
        have hi : i < ops.size := by omega
        simp only [listF, List.getElem_toArray, List.getElem_map, List.getElem_range]
        cases hc : F.contains i with
        | true =>
          have := hF i (by simpa using hc)
          simpa [h1] using this
        | false =>
          have := hall i hi hc
          simpa [h1] using this
    rw [Nat.zero_add, e]
    exact hend a w (e ▸ hJ)
  | succ m ih =>
    intro listed a w hm hsz hcl hF hJ
    rw [show m + 1 + F.length = (m + F.length) + 1 by omega]
    -- the least that is not listed yet
    have hex : ∃ i, i < ops.size ∧ F.contains i = false ∧ listed.getD i true = false := by
      have : 0 < leftJ ops.size F listed := by omega
      obtain ⟨i, hi⟩ := List.exists_mem_of_length_pos this
      rw [List.mem_filter] at hi
      simp only [Bool.and_eq_true, Bool.not_eq_true'] at hi
      exact ⟨i, List.mem_range.1 hi.1, hi.2.1, hi.2.2⟩
    obtain ⟨j0, hj0, hFj0, hlj0⟩ := hex
    have hleast : ∀ n j, j < n → j < ops.size → F.contains j = false → listed.getD j true = false → ∃ i, i ∈ Region.ready .any ops listed := by
      intro n
      induction n with
      | zero => intro j h; omega
      | succ n ihn =>
        intro j hjn hj hFj hlj
        by_cases hlow : ∃ k, k < j ∧ k < ops.size ∧ F.contains k = false ∧ listed.getD k true = false
        · obtain ⟨k, hk1, hk2, hk3, hk4⟩ := hlow
          exact ihn k (by omega) hk2 hk3 hk4
        · refine ⟨j, mem_ready.2 ⟨hlj, ops[j], Array.getElem?_eq_getElem hj, fun e he hb => ?_⟩⟩
          obtain ⟨_, h2⟩ := k1 j ops[j] (Array.getElem?_eq_getElem hj) hFj
          obtain ⟨h3, h4⟩ := h2 e he hb
          cases hle : listed.getD e.on true with
          | false => exact absurd ⟨e.on, h3, by omega, h4, hle⟩ hlow
          | true =>
            have hlt' : e.on < listed.size := by omega
            simpa [hlt'] using hle
    refine ⟨fun h0 => ?_, fun i hi => ?_⟩
    · obtain ⟨i, hi⟩ := hleast (j0 + 1) j0 (by omega) hj0 hFj0 hlj0
      rw [h0] at hi; cases hi
    · have hFi : F.contains i = false := by
        cases hc : F.contains i with
        | false => rfl
        | true =>
          have h1 := listed_ready hcl hi (k3 i (by simpa using hc) j0 hj0 hFj0)
          rw [getD_both hlj0] at h1; cases h1
      obtain ⟨hun, o, ho, hall⟩ := mem_ready.1 hi
      have hisz := (Array.getElem?_eq_some_iff.1 ho).1
      obtain ⟨⟨d, hd, hdm⟩, _⟩ := k1 i o ho hFi
      have hdo : dstOf ops i = d := by simp [dstOf, ho, hd]
      have hdlt : d < a.tmps.size := by rw [hJ.ag.size]; exact hlt d hdm
      have hilt : i < listed.size := by omega
      -- what holds behind it
      have next : ∀ v w', Below w.heap.size w w' → C i v w' → (i ∈ A → v = .pointer (some ⟨w.heap.size, 0, none⟩)) → wpAny P .any ops Q (m + F.length) (listed.setIfInBounds i true) (a.put (some d) v) w' := by
        intro v w' hb hv hva
        have hne : ∀ j, i ≠ j → (listed.setIfInBounds i true).getD j false = listed.getD j false := fun j h => getD_set_ne false h
        refine ih _ _ _ ?_ (by simpa using hsz) (hcl.add hi) (fun f hf => ?_) ⟨hJ.ag.put hdm v, hS w w' hb hJ.s, hJ.b.trans (hb.mono hJ.b.size), fun j hj hFj hlj => ?_, fun j hj k hk hjk hlj hlk => ?_⟩
        · have := filter_less (l := List.range ops.size) List.nodup_range (p := fun i => !F.contains i && !listed.getD i true) (q := fun j => !F.contains j && !(listed.setIfInBounds i true).getD j true) (i := i) (List.mem_range.2 hisz) (by simp only [hFi, hun]; rfl) (by simp [hilt]) (fun j _ hj => by rw [getD_set_ne true (Ne.symm hj)])
          unfold leftJ at hm ⊢; omega
        · rw [getD_set_ne true (fun e => by subst e; have : F.contains i = true := by simpa using hf
                                            rw [hFi] at this; cases this)]
          exact hF f hf
        · by_cases hij : i = j
          · subst hij; rw [hdo, getD_put_eq a hdlt]; exact hv
          · rw [getD_put_ne a (hdo ▸ k2 i j hisz hj hFi hFj hij)]
            exact hC j _ w w' hb (hJ.c j hj hFj (hne j hij ▸ hlj))
        · have hAF : ∀ x ∈ A, (listed.setIfInBounds i true).getD x false = true → x < ops.size ∧ F.contains x = false := by
            intro x hx hlx
            have hxs : x < ops.size := by
              rcases Nat.lt_or_ge x ops.size with h | h
              · exact h
              · rw [Array.getD_eq_getD_getElem?, Array.getElem?_eq_none (by simp; omega)] at hlx; cases hlx
            refine ⟨hxs, ?_⟩
            cases hc : F.contains x with
            | false => rfl
            | true =>
              by_cases hix : i = x
              · subst hix; rw [hFi] at hc; cases hc
              · have h1 := hF x (by simpa using hc)
                rw [hne x hix] at hlx
                rw [getD_both h1] at hlx; cases hlx
          obtain ⟨hjs, hFj⟩ := hAF j hj hlj
          obtain ⟨hks, hFk⟩ := hAF k hk hlk
          have apart : ∀ x, x ∈ A → x < ops.size → F.contains x = false → i ∈ A → i ≠ x → listed.getD x false = true → a.tmps.getD (dstOf ops x) undef ≠ .pointer (some ⟨w.heap.size, 0, none⟩) := by
            intro x hx hxs hFx _ _ hlx he
            have h1 := hJ.c x hxs hFx hlx
            rw [hCA x hx] at h1
            obtain ⟨b, hb1, _, hb3⟩ := h1
            rw [he] at hb1
            have := hb3.lt
            cases hb1
            omega
          by_cases hij : i = j
          · subst hij
            rw [hdo, getD_put_eq a hdlt, getD_put_ne a (hdo ▸ k2 i k hisz hks hFi hFk hjk), hva hj]
            exact fun he => apart k hk hks hFk hj hjk (hne k hjk ▸ hlk) he.symm
          · by_cases hik : i = k
            · subst hik
              rw [hdo, getD_put_eq a hdlt, getD_put_ne a (hdo ▸ k2 i j hisz hjs hFi hFj hij), hva hk]
              exact apart j hj hjs hFj hk hij (hne j hij ▸ hlj)
            · rw [getD_put_ne a (hdo ▸ k2 i j hisz hjs hFi hFj hij), getD_put_ne a (hdo ▸ k2 i k hisz hks hFi hFk hik)]
              exact hJ.d j hj k hk hjk (hne j hij ▸ hlj) (hne k hik ▸ hlk)
      unfold wpOp
      simp only [ho]
      cases hA : A.contains i with
      | true =>
        have hAi : i ∈ A := by simpa using hA
        obtain ⟨hg, hal'⟩ := hal i hAi o ho
        rw [if_pos (by simp [Region.wanted, hg])]
        refine .inl (Oper.wp_mono (fun a' w' ⟨h1, h2⟩ => ?_) (hal' a w))
        subst h1; subst h2
        rw [hd]
        exact next _ _ ((Below.refl _ _).alloc (Nat.le_refl _) _) (by rw [hCA i hAi]; exact ⟨_, rfl, hJ.b.size, Rw.new w _ _⟩) (fun _ => rfl)
      | false =>
        have hAi : i ∉ A := by simpa using hA
        have hdeps : ∀ e, waitsT .any ops 6 i e = true → C e (a.tmps.getD (dstOf ops e) undef) w := by
          intro e he
          have hle := listed_ready hcl hi he
          have hes : e < ops.size := by
            rcases Nat.lt_or_ge e ops.size with h | h
            · exact h
            · rw [Array.getD_eq_getD_getElem?, Array.getElem?_eq_none (by omega)] at hle; cases hle
          refine hJ.c e hes ?_ hle
          cases hc : F.contains e with
          | false => rfl
          | true => have h1 := hF e (by simpa using hc); rw [getD_both h1] at hle; cases hle
        have := hob i hisz hFi hA o ho a w hJ.ag hJ.s hJ.b hdeps
        by_cases hw : Region.wanted o (yielded ops a.tmps) = true
        · rw [if_pos hw] at this ⊢
          refine .inl (Oper.wp_mono (fun a' w' ⟨v, h1, h2, h3⟩ => ?_) this)
          subst h1
          rw [hd]
          exact next v w' h2 h3 (fun h => absurd h hAi)
        · rw [if_neg hw] at this ⊢
          rw [hd]
          exact next undef w (Below.refl _ _) this (fun h => absurd h hAi)
theorem wp_region_J {id : Nat} {a0 : Act} {w0 : World} (F : List Nat) (ds : List Nat) (S : World → Prop) (C : Nat → Value → World → Prop) (A : List Nat) (Z : Nat → Array Value × TypeId) (hm : P.follows .mixedOrders = true)
    (hok : okJ ops F ds = true) (hlt : ∀ d ∈ ds, d < a0.tmps.size) (hS0 : S w0) (hS : ∀ w w', Below w.heap.size w w' → S w → S w') (hC : ∀ i v w w', Below w.heap.size w w' → C i v w → C i v w')
    (hCA : ∀ i ∈ A, C i = NewZ w0.heap.size (Z i).1 (Z i).2)
    (hob : ∀ i, i < ops.size → F.contains i = false → A.contains i = false → ObJ P ops Q a0 w0.drew ds S C i) (hal : ∀ i ∈ A, ObA P ops Q i (Z i).1 (Z i).2)
    (hend : ∀ a w, HJ ops F a0 w0.drew ds S C A (listF ops.size F) a w → wpAny P .any ops Q F.length (listF ops.size F) a w) : (Code.region id ops true).wp P Q a0 w0 := by
  refine wp_region_any hm ?_
  have h0 : ∀ i, (Array.replicate ops.size false).getD i false = false := fun i => by
    rw [Array.getD_eq_getD_getElem?]
    by_cases h : i < ops.size <;> simp [h]
  have hF : ∀ f ∈ F, f < ops.size := by
    have hok' := hok
    simp only [okJ, Bool.and_eq_true] at hok'
    intro f hf
    have h1 := List.all_eq_true.1 hok'.1.2 f hf
    simp only [Bool.and_eq_true, decide_eq_true_eq] at h1
    exact h1.1
  have hN : F.Nodup := by simp only [okJ, Bool.and_eq_true, decide_eq_true_eq] at hok; exact hok.2
  have hsum : leftJ ops.size F (Array.replicate ops.size false) + F.length = ops.size := by
    have e1 : leftJ ops.size F (Array.replicate ops.size false) = ((List.range ops.size).filter fun i => !F.contains i).length := by
      unfold leftJ
      congr 1
      refine List.filter_congr fun i hi => ?_
      have := List.mem_range.1 hi
      simp [this]
    have e2 : ((List.range ops.size).filter fun i => F.contains i).length = F.length := by
      refine List.Perm.length_eq ((List.perm_ext_iff_of_nodup (List.nodup_range.filter _) hN).2 fun x => ?_)
      rw [List.mem_filter, List.mem_range]
      constructor
      · intro h; simpa using h.2
      · intro h; exact ⟨hF x h, by simpa using h⟩
    have e3 : ∀ (l : List Nat) (p : Nat → Bool), (l.filter fun i => !p i).length + (l.filter p).length = l.length := by
      intro l p
      induction l with
      | nil => rfl
      | cons x l ih => cases hp : p x <;> simp [hp] <;> omega
    have := e3 (List.range ops.size) (fun i => F.contains i)
    rw [List.length_range] at this
    omega
  have key := wpAny_J (P := P) (Q := Q) (w0 := w0.drew) hok hlt hS hC hCA hob hal hend (leftJ ops.size F (Array.replicate ops.size false)) (Array.replicate ops.size false) a0 w0.drew rfl (by simp) (fun k o _ hk => by rw [h0] at hk; cases hk)
    (fun f hf => by have := hF f hf; simp [this])
    ⟨Agree.refl _ _, hS w0 w0.drew (Below.refl _ _).drew hS0, Below.refl _ _, fun i _ _ h => (by rw [h0] at h; cases h), fun i _ j _ _ h => (by rw [h0] at h; cases h)⟩
  rw [hsum] at key
  exact key
def AllO (n : Nat) (p : Nat → Prop) : Prop := ∀ i, i < n → p i
theorem AllO.zero {p : Nat → Prop} : AllO 0 p := fun _ h => absurd h (Nat.not_lt_zero _)
theorem AllO.succ {n : Nat} {p : Nat → Prop} (h : AllO n p) (k : p n) : AllO (n + 1) p := fun i hi => by
  rcases Nat.lt_succ_iff_lt_or_eq.1 hi with h1 | rfl
  · exact h i h1
  · exact k
def CK (B : Nat) (vals : List Value) (cs : Nat → Option (Value → World → Prop)) (al : Nat → Option (Array Value × TypeId)) (i : Nat) (v : Value) (w : World) : Prop :=
  match al i with
  | some z => NewZ B z.1 z.2 v w
  | none => match cs i with
    | some p => p v w
    | none => v = vals.getD i undef
theorem NewZ.below {B : Nat} {z : Array Value} {t : TypeId} {v : Value} {w w' : World} (h : NewZ B z t v w) (hb : Below w.heap.size w w') : NewZ B z t v w' := by
  obtain ⟨b, h1, h2, h3⟩ := h; exact ⟨b, h1, h2, h3.below hb⟩
theorem wp_region_K {id : Nat} {a0 : Act} {w0 : World} (F : List Nat) (ds : List Nat) (S : World → Prop) (vals : List Value) (cs : Nat → Option (Value → World → Prop)) (al : Nat → Option (Array Value × TypeId)) (hm : P.follows .mixedOrders = true)
    (hok : okJ ops F ds = true) (hlt : ∀ d ∈ ds, d < a0.tmps.size) (hS0 : S w0) (hS : ∀ w w', Below w.heap.size w w' → S w → S w')
    (hcs : ∀ i p, cs i = some p → ∀ v w w', Below w.heap.size w w' → p v w → p v w')
    (hob : AllO ops.size fun i => F.contains i = false → al i = none → ObJ P ops Q a0 w0.drew ds S (CK w0.heap.size vals cs al) i)
    (hal : AllO ops.size fun i => ∀ z, al i = some z → ObA P ops Q i z.1 z.2)
    (hend : ∀ a w, HJ ops F a0 w0.drew ds S (CK w0.heap.size vals cs al) ((List.range ops.size).filter fun i => (al i).isSome) (listF ops.size F) a w → ∀ G : Prop, Shut (wpAny P .any ops Q F.length (listF ops.size F) a w → G) → G) : (Code.region id ops true).wp P Q a0 w0 := by
  replace hend := fun a w h => hend a w h _ (Lib.hid (fun k => k))
  refine wp_region_J F ds S (CK w0.heap.size vals cs al) ((List.range ops.size).filter fun i => (al i).isSome) (fun i => (al i).getD (#[], 0)) hm hok hlt hS0 hS ?_ ?_ ?_ ?_ hend
  · intro i v w w' hb h
    unfold CK at *
    split at h
    · exact h.below hb
    · split at h
      · rename_i p hp; exact hcs i p hp v w w' hb h
      · exact h
  · intro i hi
    rw [List.mem_filter] at hi
    obtain ⟨z, hz⟩ := Option.isSome_iff_exists.1 hi.2
    funext v w
    simp only [CK, hz, Option.getD_some]
  · intro i hi hF hA
    refine hob i hi hF ?_
    cases hz : al i with
    | none => rfl
    | some z =>
      have : i ∈ (List.range ops.size).filter fun i => (al i).isSome := List.mem_filter.2 ⟨List.mem_range.2 hi, by rw [hz]; rfl⟩
      have h2 : ((List.range ops.size).filter fun i => (al i).isSome).contains i = true := by simpa using this
      rw [h2] at hA; cases hA
  · intro i hi
    rw [List.mem_filter, List.mem_range] at hi
    obtain ⟨z, hz⟩ := Option.isSome_iff_exists.1 hi.2
    have := hal i hi.1 z hz
    simpa only [hz, Option.getD_some] using this
theorem ObJ.mk {a0 : Act} {w0 : World} {ds : List Nat} {S : World → Prop} {C : Nat → Value → World → Prop} {i : Nat} {o : Oper} (ho : ops[i]? = some o)
    (h : ∀ t w, S w → Below w0.heap.size w0 w → (∀ d, waitsT .any ops 6 i d = true → C d (t (dstOf ops d)) w) → ∀ G : Prop, Shut ((
      if Region.wanted o (yielded ops (frOf a0 ds t).tmps) = true then Oper.wp P o (frOf a0 ds t) w (fun a' w' => ∃ v, a' = (frOf a0 ds t).put o.dst v ∧ Below w.heap.size w w' ∧ C i v w') Q else C i undef w) → G) → G) : ObJ P ops Q a0 w0 ds S C i := by
  intro o' ho' a w hag hS hB hd
  obtain rfl : o = o' := Option.some.inj (ho.symm.trans ho')
  have he := hag.eq
  have := h (fun s => a.tmps.getD s undef) w hS hB hd _ (Lib.hid (fun k => k))
  rw [← he] at this
  exact this
theorem obq {C : Nat → Value → World → Prop} {i : Nat} {o : Oper} {a : Act} {w : World} {v : Value} (hw : Region.wanted o (yielded ops a.tmps) = true) (hy : (execOp a.eval o).run P w = .ok (.value v) w) (hc : C i v w) :
    if Region.wanted o (yielded ops a.tmps) = true then Oper.wp P o a w (fun a' w' => ∃ v, a' = a.put o.dst v ∧ Below w.heap.size w w' ∧ C i v w') Q else C i undef w := by
  rw [if_pos hw]
  unfold Oper.wp
  rw [hy]
  exact ⟨v, rfl, Below.refl _ _, hc⟩
theorem obc {C : Nat → Value → World → Prop} {i : Nat} {o : Oper} {a : Act} {w : World} (hw : Region.wanted o (yielded ops a.tmps) = true)
    (h : ∀ K : Act → World → Prop, Shut (∀ v w', Below w.heap.size w w' → C i v w' → K (a.put o.dst v) w') → Oper.wp P o a w K Q) :
    if Region.wanted o (yielded ops a.tmps) = true then Oper.wp P o a w (fun a' w' => ∃ v, a' = a.put o.dst v ∧ Below w.heap.size w w' ∧ C i v w') Q else C i undef w := by
  rw [if_pos hw]
  exact h _ (Lib.hid fun v w' hb hc => ⟨v, rfl, hb, hc⟩)
theorem obal {i : Nat} {o : Oper} {z : Array Value} {t : TypeId} (ho : ops[i]? = some o) (hg : o.guard = none)
    (h : ∀ (K : Act → World → Prop) a w, Shut (K (a.put o.dst (.pointer (some ⟨w.heap.size, 0, none⟩))) (w.alloc (.cells z t))) → Oper.wp P o a w K Q) : ObA P ops Q i z t := by
  intro o' ho'
  obtain rfl : o = o' := Option.some.inj (ho.symm.trans ho')
  exact ⟨hg, fun a w => h _ a w (Lib.hid ⟨rfl, rfl⟩)⟩
theorem CK_const {B : Nat} {vals : List Value} {cs : Nat → Option (Value → World → Prop)} {al : Nat → Option (Array Value × TypeId)} {i : Nat} {v c : Value} {w : World} (h : CK B vals cs al i v w) (ha : al i = none) (hc : cs i = none) (hv : vals[i]? = some c) : v = c := by
  simp only [CK, ha, hc] at h; rw [h]; simp [hv]
theorem CK_intro {B : Nat} {vals : List Value} {cs : Nat → Option (Value → World → Prop)} {al : Nat → Option (Array Value × TypeId)} {i : Nat} {v : Value} {w : World} (ha : al i = none) (hc : cs i = none) (hv : vals[i]? = some v) : CK B vals cs al i v w := by
  simp only [CK, ha, hc]; simp [hv]
theorem CK_new {B : Nat} {vals : List Value} {cs : Nat → Option (Value → World → Prop)} {al : Nat → Option (Array Value × TypeId)} {i : Nat} {v : Value} {w : World} {z : Array Value × TypeId} (h : CK B vals cs al i v w) (ha : al i = some z) : NewZ B z.1 z.2 v w := by
  simp only [CK, ha] at h; exact h
theorem CK_pred {B : Nat} {vals : List Value} {cs : Nat → Option (Value → World → Prop)} {al : Nat → Option (Array Value × TypeId)} {i : Nat} {v : Value} {w : World} {p : Value → World → Prop} (h : CK B vals cs al i v w) (ha : al i = none) (hc : cs i = some p) : p v w := by
  simp only [CK, ha, hc] at h; exact h
theorem CK_pintro {B : Nat} {vals : List Value} {cs : Nat → Option (Value → World → Prop)} {al : Nat → Option (Array Value × TypeId)} {i : Nat} {v : Value} {w : World} {p : Value → World → Prop} (ha : al i = none) (hc : cs i = some p) (h : p v w) : CK B vals cs al i v w := by
  simp only [CK, ha, hc]; exact h
theorem HJ.open {F : List Nat} {a0 : Act} {w0 : World} {ds : List Nat} {S : World → Prop} {C : Nat → Value → World → Prop} {A : List Nat} {a : Act} {w : World} (h : HJ ops F a0 w0 ds S C A (listF ops.size F) a w) :
    ∃ t, a = frOf a0 ds t ∧ S w ∧ Below w0.heap.size w0 w ∧ (∀ i, i < ops.size → F.contains i = false → C i (t (dstOf ops i)) w) ∧ (∀ i j, i ∈ A → j ∈ A → i ≠ j → F.contains i = false → F.contains j = false → i < ops.size → j < ops.size → t (dstOf ops i) ≠ t (dstOf ops j)) := by
  have hl : ∀ i, i < ops.size → F.contains i = false → (listF ops.size F).getD i false = true := by
    intro i hi hF
    simp [listF, hi]; simpa using hF
  exact ⟨fun s => a.tmps.getD s undef, h.ag.eq, h.s, h.b, fun i hi hF => h.c i hi hF (hl i hi hF), fun i j hi hj hne hFi hFj hsi hsj => h.d i hi j hj hne (hl i hsi hFi) (hl j hsj hFj)⟩
end
end Go.Shr
namespace Go.Shr
open Go Go.RowKit
section
variable {P : Program} {ops : Array Oper} {Q : Exit → Act → World → Prop} {md : Region.Mode} {S : World → Prop} {F F' : List Nat}
theorem wpAnyF_first0 {i : Nat} {oi : Oper} {v : Value} (hi : ops[i]? = some oi) (hsel : ∀ (j : Nat) (o : Oper) cs b, ops[j]? = some o → o.op ≠ .select cs b) (hF : F.contains i = true)
    (hQ : ∀ c a w, Q (.panic c) (a.put oi.dst v) w → Q (.panic c) a w) :
    ∀ (fuel : Nat) (listed : Array Bool) (a : Act) (w : World), Closed md ops listed →
      (∀ j oj, ops[j]? = some oj → j ≠ i → listed.getD j true = false → (∀ e ∈ oj.after, Region.binds md e = true → e.on ≠ i) → oi.apart ops oj = true) →
      i ∈ Region.ready md ops listed → YieldsIf P ops (fun _ => True) oi v a →
      wpAnyF P md ops Q S F fuel (listed.setIfInBounds i true) (a.put oi.dst v) w → wpAnyF P md ops Q S F (fuel + 1) listed a w := by
  intro fuel
  induction fuel with
  | zero =>
    intro listed a w _ _ hr hy H
    refine ⟨fun h => (by rw [h] at hr; cases hr), fun j hj => ?_⟩
    by_cases hji : j = i
    · subst hji; exact hy.wpOp hi trivial ⟨fun h0 => (by rw [hF] at h0; cases h0), H⟩
    · have := ready_mono hj hji
      rw [H.1] at this
      cases this
  | succ fuel ih =>
    intro listed a w hcl hfree hr hy H
    refine ⟨fun h => (by rw [h] at hr; cases hr), fun j hj => ?_⟩
    by_cases hji : j = i
    · subst hji; exact hy.wpOp hi trivial ⟨fun h0 => (by rw [hF] at h0; cases h0), H⟩
    · have h1 := H.2 j (ready_mono hj hji)
      obtain ⟨hjun, oj, hoj, hall⟩ := mem_ready.1 hj
      have hnot : ∀ e ∈ oj.after, Region.binds md e = true → e.on ≠ i := fun e he hb heq => by
        have h1 := hall e he hb
        have h0 := (mem_ready.1 hr).1
        rw [heq, getD_both h0] at h1
        cases h1
      have h2 := wpOp_putIf hoj (hfree j oj hoj hji hjun hnot) (fun cs b => hsel i oi cs b hi) (fun cs b => hsel j oj cs b hoj) hQ hy h1
      have hfree' : ∀ k ok, ops[k]? = some ok → k ≠ i → (listed.setIfInBounds j true).getD k true = false →
          (∀ e ∈ ok.after, Region.binds md e = true → e.on ≠ i) → oi.apart ops ok = true := fun k ok hk hki hun hno => by
        refine hfree k ok hk hki ?_ hno
        by_cases hjk : j = k
        · subst hjk; exact hjun
        · rw [getD_set_ne true hjk] at hun; exact hun
      refine wpOp_mono (fun a' w' h3 => ⟨h3.2.1, ih (listed.setIfInBounds j true) a' w' (hcl.add hj) hfree' (ready_mono hr (Ne.symm hji)) h3.1 ?_⟩) h2
      rw [Array.setIfInBounds_comm _ _ hji]
      exact h3.2.2
theorem wpAnyF_take0 (i : Nat) {oi : Oper} {v : Value} {fuel : Nat} {listed : Array Bool} {a : Act} {w : World} (hi : ops[i]? = some oi)
    (hB : (Region.noSelect ops && Region.free md ops listed i && (Region.ready md ops listed).contains i && F.contains i && closedB md ops listed) = true)
    (hQ : ∀ c a w, Q (.panic c) (a.put oi.dst v) w → Q (.panic c) a w) (hw : Region.wanted oi (yielded ops a.tmps) = true) (hy : ∀ w, True → (execOp a.eval oi).run P w = .ok (.value v) w)
    (h : wpAnyF P md ops Q S F fuel (listed.setIfInBounds i true) (a.put oi.dst v) w) : wpAnyF P md ops Q S F (fuel + 1) listed a w := by
  simp only [Bool.and_eq_true] at hB
  exact wpAnyF_first0 hi (Region.noSelect_spec hB.1.1.1.1) hB.1.2 hQ fuel listed a w (closedB_spec hB.2) (Region.free_spec hi hB.1.1.1.2) (by simpa using hB.1.1.2) (.inl ⟨hw, hy⟩) h
theorem wpAnyF_mono (hF : ∀ j, F.contains j = true → F'.contains j = true) : ∀ (fuel : Nat) (listed : Array Bool) (a : Act) (w : World), wpAnyF P md ops Q S F fuel listed a w → wpAnyF P md ops Q S F' fuel listed a w
  | 0, _, _, _, h => h
  | fuel + 1, _, _, _, h => ⟨h.1, fun i hi => wpOp_mono (fun a' w' h' => ⟨fun h0 => h'.1 (by
      cases hc : F.contains i with
      | false => rfl
      | true => rw [hF i hc] at h0; cases h0), wpAnyF_mono hF fuel _ a' w' h'.2⟩) (h.2 i hi)⟩
end
end Go.Shr
namespace Go.Shr
open Go Go.RowKit
def nthO : List Oper → Nat → Option Oper
  | [], _ => none
  | o :: _, 0 => some o
  | _ :: r, n + 1 => nthO r n
theorem nthO_list : ∀ (l : List Oper) (n : Nat), nthO l n = l[n]?
  | [], n => by simp [nthO]
  | o :: r, 0 => rfl
  | o :: r, n + 1 => by simpa [nthO] using nthO_list r n
section
variable {P : Program} {ops : Array Oper} {Q : Exit → Act → World → Prop} {md : Region.Mode} {S : World → Prop} {F : List Nat}
theorem nthO_ops {i : Nat} {o : Oper} (h : nthO ops.toList i = some o) : ops[i]? = some o := by rw [nthO_list] at h; simpa using h
def tkB (md : Region.Mode) (ops : Array Oper) (F : List Nat) : List Nat → Array Bool → Bool
  | [], _ => true
  | i :: is, listed => (Region.noSelect ops && Region.free md ops listed i && (Region.ready md ops listed).contains i && lastB md ops F i && closedB md ops listed) && tkB md ops F is (listed.setIfInBounds i true)
def tkL : List Nat → Array Bool → Array Bool
  | [], listed => listed
  | i :: is, listed => tkL is (listed.setIfInBounds i true)
def YA (P : Program) (ops : Array Oper) (S : World → Prop) : List Nat → Act → (Act → Prop) → Prop
  | [], a, K => K a
  | i :: is, a, K => ∃ oi v, nthO ops.toList i = some oi ∧ YieldsIf P ops S oi v a ∧ YA P ops S is (a.put oi.dst v) K
theorem YA.nil {a : Act} {K : Act → Prop} (h : K a) : YA P ops S [] a K := h
theorem YA.take {i : Nat} {is : List Nat} {a : Act} {K : Act → Prop} {oi : Oper} {v : Value} (hi : nthO ops.toList i = some oi) (hw : Region.wanted oi (yielded ops a.tmps) = true)
    (hy : ∀ w, S w → (execOp a.eval oi).run P w = .ok (.value v) w) (h : YA P ops S is (a.put oi.dst v) K) : YA P ops S (i :: is) a K := ⟨oi, v, hi, .inl ⟨hw, hy⟩, h⟩
theorem YA.skip {i : Nat} {is : List Nat} {a : Act} {K : Act → Prop} {oi : Oper} (hi : nthO ops.toList i = some oi) (hw : Region.wanted oi (yielded ops a.tmps) = false)
    (h : YA P ops S is (a.put oi.dst undef) K) : YA P ops S (i :: is) a K := ⟨oi, undef, hi, .inr ⟨hw, rfl⟩, h⟩
theorem wpAnyF_tks (is : List Nat) (m : Nat) {fuel : Nat} {listed : Array Bool} {a : Act} {w : World} (hB : (tkB md ops F is listed && decide (fuel = m + is.length)) = true)
    (hQ : ∀ c d v a w, Q (.panic c) (Act.put a (some d) v) w → Q (.panic c) a w) (hS : S w) (h : YA P ops S is a fun a' => wpAnyF P md ops Q S F m (tkL is listed) a' w) : wpAnyF P md ops Q S F fuel listed a w := by
  rw [Bool.and_eq_true] at hB
  obtain ⟨hB, hf⟩ := hB
  have hf := of_decide_eq_true hf
  subst hf
  induction is generalizing listed a with
  | nil => exact h
  | cons i is ih =>
    obtain ⟨oi, v, hi, hy, h⟩ := h
    simp only [tkB, Bool.and_eq_true] at hB
    have := ih (a := a.put oi.dst v) (listed := listed.setIfInBounds i true) h hB.2 (by simp)
    exact wpAnyF_first (nthO_ops hi) (Region.noSelect_spec hB.1.1.1.1.1) hB.1.1.2 (fun c a w => match oi.dst with | none => fun h => h | some d => hQ c d v a w) _ listed a w (closedB_spec hB.1.2) (Region.free_spec (nthO_ops hi) hB.1.1.1.1.2) (by simpa using hB.1.1.1.2) hy hS this
theorem AllReadyF.lst {fuel : Nat} {listed : Array Bool} {a : Act} {w : World} (i : Nat) {o : Oper} {rs : List Nat} (ho : nthO ops.toList i = some o) (hF : F.contains i = true)
    (h : ∀ K' : Act → World → Prop, Shut (∀ a w, wpAnyF P md ops Q S F fuel (listed.setIfInBounds i true) a w → K' a w) → if Region.wanted o (yielded ops a.tmps) = true then Oper.wp P o a w K' Q else K' (a.put o.dst undef) w)
    (hs : AllReadyF P md ops Q S F fuel listed a w rs) : AllReadyF P md ops Q S F fuel listed a w (i :: rs) := AllReadyF.last i (nthO_ops ho) hF h hs
theorem AllReadyF.con {fuel : Nat} {listed : Array Bool} {a : Act} {w : World} (i : Nat) {o : Oper} {rs : List Nat} (ho : nthO ops.toList i = some o)
    (h : ∀ K' : Act → World → Prop, Shut (∀ a w, S w → (S w → wpAnyF P md ops Q S F fuel (listed.setIfInBounds i true) a w) → K' a w) → if Region.wanted o (yielded ops a.tmps) = true then Oper.wp P o a w K' Q else K' (a.put o.dst undef) w)
    (hs : AllReadyF P md ops Q S F fuel listed a w rs) : AllReadyF P md ops Q S F fuel listed a w (i :: rs) := AllReadyF.cons i (nthO_ops ho) h hs
end
end Go.Shr
