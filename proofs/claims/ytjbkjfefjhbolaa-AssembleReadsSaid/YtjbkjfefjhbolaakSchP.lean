import Derived.Test.YtjbkjfefjhbolaakRegJ
import Derived.Test.YtjbkjfefjhbolaaProg
import Derived.Deep.CutRange
set_option linter.all false
open List renaming mem_cons_self → zLP, mem_cons_of_mem → zLQ, mem_cons → zLR, getElem?_append_left → zLS, drop_eq_getElem_cons → zLT, length_cons → zLU, getElem?_append_right → zLW, length_singleton → zLY, length_append → zLZ
open Nat renaming lt_of_lt_of_le → zLV, le_refl → zLX
set_option maxHeartbeats 40000000
set_option maxRecDepth 100000
namespace Go.Shr
open Go.RowKit
structure Fl where
 name : ByteArray
 rep : Int
 kind : Int
 kids : Int
def Fl.v (x : Fl) : Value := .agg #[.string x.name, .int .i64 x.rep, .int .i64 x.kind, .int .i64 x.kids]
def fls (l : List Fl) : List Value := l.flatMap fun x => [.string x.name, .int .i64 x.rep, .int .i64 x.kind, .int .i64 x.kids]
theorem wG (l : List Fl) : (fls l).length = l.length * 4 := by
 induction l with
 | nil => rfl
 | cons x l ih => simp [fls] at ih ⊢; omega
theorem yB : ∀ (l : List Fl) (k : Nat) (h : k < l.length), (fls l)[k * 4]? = some (.string l[k].name) ∧ (fls l)[k * 4 + 1]? = some (.int .i64 l[k].rep) ∧ (fls l)[k * 4 + 2]? = some (.int .i64 l[k].kind) ∧ (fls l)[k * 4 + 3]? = some (.int .i64 l[k].kids)
 | x :: l, 0, _ => by simp [fls]
 | x :: l, k + 1, h => by
  have := yB l k (by simpa using h)
  rw [show (k + 1) * 4 = k * 4 + 1 + 1 + 1 + 1 by omega]
  simpa [fls] using this
abbrev Stk := List (Int × Int)
def qH : Stk → Stk
 | [] => []
 | g :: r => if g.2 ≤ 0 then qH r else g :: r
def zCJ (st : Stk) : Int := match qH st with | [] => -1 | g :: _ => g.1
def jE (i : Int) (f : Fl) (st : Stk) : Stk :=
 let st2 := match qH st with | [] => [] | g :: r => (g.1, g.2 - 1) :: r
 if f.kind = 0 then (i, f.kids) :: st2 else st2
def qZ : Nat → Stk → List Fl → List Int
 | _, _, [] => []
 | i, st, f :: l => zCJ st :: qZ (i + 1) (jE i f st) l
def par (l : List Fl) : List Int := qZ 0 [] l
def zAH : Nat → Stk → List Fl → Stk
 | _, st, [] => st
 | i, st, f :: l => zAH (i + 1) (jE i f st) l
theorem zCy : ∀ (l : List Fl) (i : Nat) (st : Stk) (f : Fl), qZ i st (l ++ [f]) = qZ i st l ++ [zCJ (zAH i st l)]
 | [], _, _, _ => rfl
 | x :: l, i, st, f => by simp only [List.cons_append, qZ, zAH, zCy l]
theorem zCt : ∀ (l : List Fl) (i : Nat) (st : Stk) (f : Fl), zAH i st (l ++ [f]) = jE ((i + l.length : Nat) : Int) f (zAH i st l)
 | [], i, st, f => by simp [zAH]
 | x :: l, i, st, f => by
  simp only [List.cons_append, zAH, zCt l, zLU]
  congr 1; omega
theorem zCK : ∀ (l : List Fl) (i : Nat) (st : Stk), (qZ i st l).length = l.length
 | [], _, _ => rfl
 | x :: l, i, st => by simp [qZ, zCK l]
theorem zFZ (st : Stk) : (qH st).length ≤ st.length := by
 induction st with
 | nil => exact zLX _
 | cons g r ih => unfold qH; split <;> simp <;> omega
theorem zCb (st : Stk) : ∀ g ∈ qH st, g ∈ st := by
 induction st with
 | nil => exact fun _ h => h
 | cons x r ih => intro g hg; unfold qH at hg; split at hg; exact zLQ _ (ih g hg); exact hg
theorem zIQ {K : Int} {i : Int} {f : Fl} {st : Stk} (hK : 0 ≤ K) (hf : f.kids ≤ K) (h : ∀ g ∈ st, g.2 ≤ K) : ∀ g ∈ jE i f st, g.2 ≤ K := by
 have h2 : ∀ g ∈ (match qH st with | [] => [] | g :: r => (g.1, g.2 - 1) :: r : Stk), g.2 ≤ K := by
  intro g hg
  cases hp : qH st with
  | nil => rw [hp] at hg; cases hg
  | cons x r =>
   rw [hp] at hg
   have hsub := zCb st
   rw [hp] at hsub
   rcases zLR.1 hg with rfl | hg
   ·have := h x (hsub x (zLP ..)); simp; omega
   ·exact h g (hsub g (zLQ _ hg))
 intro g hg
 unfold jE at hg
 dsimp only at hg
 split at hg
 ·rcases zLR.1 hg with rfl | hg
  ·exact hf
  ·exact h2 g hg
 ·exact h2 g hg
theorem zHe {K : Int} (hK : 0 ≤ K) : ∀ (l : List Fl) (i : Nat) (st : Stk), (∀ x ∈ l, x.kids ≤ K) → (∀ g ∈ st, g.2 ≤ K) → ∀ g ∈ zAH i st l, g.2 ≤ K
 | [], _, _, _, h => h
 | x :: l, i, st, hl, h => zHe hK l (i + 1) _ (fun y hy => hl y (zLQ _ hy)) (zIQ hK (hl x (zLP ..)) h)
theorem zJX {st : Stk} {i : Int} (h : ∀ g ∈ st, 0 ≤ g.1 ∧ g.1 < i) (hi : 0 ≤ i) : -1 ≤ zCJ st ∧ zCJ st < i := by
 unfold zCJ
 cases hp : qH st with
 | nil => dsimp only; omega
 | cons g r =>
  have := h g (zCb st g (by rw [hp]; exact zLP ..))
  dsimp only; omega
theorem zIR {st : Stk} {i : Int} {f : Fl} (h : ∀ g ∈ st, 0 ≤ g.1 ∧ g.1 < i) (hi : 0 ≤ i) : ∀ g ∈ jE i f st, 0 ≤ g.1 ∧ g.1 < i + 1 := by
 have h2 : ∀ g ∈ (match qH st with | [] => [] | g :: r => (g.1, g.2 - 1) :: r : Stk), 0 ≤ g.1 ∧ g.1 < i + 1 := by
  intro g hg
  cases hp : qH st with
  | nil => rw [hp] at hg; cases hg
  | cons x r =>
   rw [hp] at hg
   have hsub := zCb st
   rw [hp] at hsub
   rcases zLR.1 hg with rfl | hg
   ·have := h x (hsub x (zLP ..)); exact ⟨this.1, by have := this.2; simp; omega⟩
   ·have := h g (hsub g (zLQ _ hg)); omega
 intro g hg
 unfold jE at hg
 dsimp only at hg
 split at hg
 ·rcases zLR.1 hg with rfl | hg
  ·simp; omega
  ·exact h2 g hg
 ·exact h2 g hg
theorem zHo : ∀ (l : List Fl) (i : Nat) (st : Stk), (∀ g ∈ st, 0 ≤ g.1 ∧ g.1 < (i : Int)) → ∀ (j : Nat) (h : j < (qZ i st l).length), -1 ≤ (qZ i st l)[j] ∧ (qZ i st l)[j] < ((i + j : Nat) : Int)
 | [], _, _, _, j, h => by simp [qZ] at h
 | f :: l, i, st, hst, 0, h => by simpa [qZ] using zJX hst (by omega)
 | f :: l, i, st, hst, j + 1, h => by
  have := zHo l (i + 1) (jE i f st) (by have := zIR (f := f) hst (by omega); intro g hg; have := this g hg; omega) j (by simpa [qZ] using h)
  simp only [qZ, List.getElem_cons_succ]
  omega
theorem yI (l : List Fl) (j : Nat) (h : j < (par l).length) : -1 ≤ (par l)[j] ∧ (par l)[j] < (j : Int) := by
 have := zHo l 0 [] (by simp) j h
 rw [Nat.zero_add] at this
 exact this
theorem zW (l : List Fl) : (par l).length = l.length := zCK l 0 []
def stc (st : Stk) : List Value := st.reverse.flatMap fun g => [.int .i64 g.1, .int .i64 g.2]
theorem wW (g : Int × Int) (st : Stk) : stc (g :: st) = stc st ++ [.int .i64 g.1, .int .i64 g.2] := by simp [stc]
theorem zA5 (st : Stk) : (stc st).length = st.length * 2 := by
 induction st with
 | nil => rfl
 | cons g st ih => rw [wW]; simp [ih]; omega
theorem zHf (g : Int × Int) (st : Stk) : (stc (g :: st))[st.length * 2]? = some (.int .i64 g.1) ∧ (stc (g :: st))[st.length * 2 + 1]? = some (.int .i64 g.2) := by
 rw [wW]
 have := zA5 st
 constructor
 ·rw [zLW (by omega), this, Nat.sub_self]; rfl
 ·rw [zLW (by omega), this, show st.length * 2 + 1 - st.length * 2 = 1 by omega]; rfl
theorem zHg : ∀ (st : Stk) (k : Nat), k < st.length → ∃ x y, (stc st)[k * 2]? = some (Value.int .i64 x) ∧ (stc st)[k * 2 + 1]? = some (Value.int .i64 y)
 | [], _, h => absurd h (Nat.not_lt_zero _)
 | g :: st, k, h => by
  have hl := zA5 st
  by_cases hk : k < st.length
  ·obtain ⟨x, y, h1, h2⟩ := zHg st k hk
   refine ⟨x, y, ?_, ?_⟩
   ·rw [wW, zLS (by omega)]; exact h1
   ·rw [wW, zLS (by omega)]; exact h2
  ·obtain rfl : k = st.length := by simp at h; omega
   exact ⟨_, _, zHf g st⟩
theorem zJQ (g : Int × Int) (st : Stk) (n : Int) : (stc (g :: st)).set (st.length * 2 + 1) (.int .i64 n) = stc ((g.1, n) :: st) := by
 rw [wW, wW]
 have := zA5 st
 rw [List.set_append_right _ _ (by omega), this, show st.length * 2 + 1 - st.length * 2 = 1 by omega]; rfl
theorem zIF (g : Int × Int) (st : Stk) : (stc (g :: st)).take (st.length * 2) = stc st := by
 rw [wW, ← zA5 st, List.take_left]
theorem Own.upto {P : Program} {B : Nat} {w : World} {t e : TypeId} {i : TypeInfo} {size n cap : Nat} {a : Option Addr} {xs : List Value} (ht : P.underlying t = some (.slice e)) (hi : P.info? e = some i) (hsz : i.size = size) (h : Own B w e size a n cap xs) (k : IntKind) (hh : Int) (h0 : 0 ≤ hh) (h1 : hh ≤ n) :
  (∀ w', (Instr.slice t (.slice a n cap) none (some (.int k hh)) none).run P w' = .ok (.slice a hh.toNat cap) w') ∧ Own B w e size a hh.toNat cap (xs.take (hh.toNat * size)) := by
 refine ⟨fun w' => ?_, h.less (by omega)⟩
 rw [zB5 ht hi hsz a n cap k hh h0 (by have := h.le; omega)]
 congr 2
 rcases h.row with h2 | ⟨g, cur, rfl, _⟩
 ·rw [if_pos h2]
 ·split
  ·rfl
  ·simp [Addr.add]
end Go.Shr
namespace Go.Proofs.Ytjbkjfefjhbolaa
open Go.RowKit Go.Shr
def zQ (l : List Int) : List Value := l.map fun d => .int .i64 d
theorem zDP (l : List Int) : ∀ u ∈ zQ l, u.oneCell' = true := by
 intro u hu
 simp only [zQ, List.mem_map] at hu
 obtain ⟨d, _, rfl⟩ := hu
 rfl
theorem jG (l : List Int) : (zQ l).length = l.length := by simp [zQ]
theorem yT (l : List Int) (x : Int) : zQ (l ++ [x]) = zQ l ++ [.int .i64 x] := by simp [zQ]
theorem zO (l : List Int) (k : Nat) (h : k < l.length) : (zQ l)[k]? = some (.int .i64 l[k]) := by simp [zQ, h]
theorem zX {a b : Int} (h : a = b) : Ending.returned (.int .i64 a) = .returned (.int .i64 b) := by rw [h]
theorem zAc {a b : Bool} (h : a = b) : Ending.returned (.bool a) = .returned (.bool b) := by rw [h]
theorem jR : (Try.prog.info? 3).map (fun i => (i.zero, i.size, i.bytes)) = some (some (.int .i64 0), 1, 8) := by kernel_rfl
theorem zK1 : (Try.prog.info? 129).map (fun i => (i.zero, i.size, i.bytes)) = some (some (.agg #[.int .i64 0, .int .i64 0]), 2, 16) := by kernel_rfl
theorem zKj (ok : Nat → Prop) (a : Option Addr) (n cap : Nat) (xs : List Value) (w : World) (h : Sl ok w 1 a n cap xs) (hx : ∀ u ∈ xs, u.oneCell' = true) (hn : n ≤ 1000000) :
  Calls Try.prog 60 #[.slice a n cap] w fun e w' => ∃ a' cap', e = .returned (.slice a' n cap') ∧ Own w.heap.size w' 3 1 a' n cap' xs ∧ Below w.heap.size w w' := by
 have hnil := fun (w : World) => Lib.run_eql_slice_nil (P := Try.prog) w 22 3 a n cap 0 0 Try.underlying22
 obtain ⟨i0, hi, hz0, hz1, hz2⟩ := info_parts jR
 rcases a with _ | a
 ·have h0 : n = 0 := by rcases h.row with h0 | ⟨_, _, h1, _⟩; exact h0; cases h1
  subst h0
  have hx0 : xs = [] := List.eq_nil_of_length_eq_zero (by simpa using h.len)
  subst hx0
  have H := zH h; clear h hx
  go_enter Try.func60, Try.ntmps60
  go_wp2
  go_ret
  exact ⟨none, 0, rfl, Own.nil _ _ _ _, Below.refl _ _⟩
 ·have hs := (h.alloc (.cells #[] 3)).src (P := Try.prog) (tx := 22) Try.underlying22 hx
  have HS := zH hs; clear hs h hx
  go_enter Try.func60, Try.ntmps60
  go_wp2_with (at_builtin; refine zI (B := w.heap.size) rfl _ _ _ _ rfl i0 (.int .i64 0) 8 Try.underlying22 hi hz0 hz1 hz2 rfl rfl (Own.bare _ _ _ _ _) _ rfl _ _ HS.out (by simp only [maxLen]; omega) (by omega) (by simp) ?_; intro a' cap' w' hown hchg hnew)
  go_ret
  exact ⟨a', cap', by simp, by simpa using hown, ((Below.refl _ _).alloc (zLX _) _).trans (hchg.below (by simp) (fun i hi ⟨_, h2⟩ => by omega))⟩
def zKp (B c : Nat) (a : Option Addr) (n : Nat) (xs : List Int) (x : Int) (w : World) (e : Ending) (w' : World) : Prop :=
 e = .returned (.bool true) ∧ ∃ a' cap', Rw w' c #[.slice a' (n + 1) cap'] 22 ∧ Own B w' 3 1 a' (n + 1) cap' (zQ (xs ++ [x])) ∧ Chg (fun k => k = c ∨ (blk a k ∧ B ≤ k)) w w' ∧ (∀ k, blk a' k → blk a k ∨ w.heap.size ≤ k)
theorem zHn (i p d : Int) (B c : Nat) (a : Option Addr) (n cap : Nat) (xs : List Int) (w : World) (hr : Rw w c #[.slice a n cap] 22) (ho : Own B w 3 1 a n cap (zQ xs)) (hn : n ≤ 1000000) (hcB : c < B) (hBw : B ≤ w.heap.size) :
  Calls Try.prog 59 #[.int .i64 i, .int .i64 p, .int .i64 d, .pointer (some ⟨c, 0, none⟩)] w (zKp B c a n xs p w) := by
 obtain ⟨ii, hii, hz0i, hz1i, hz2i⟩ := info_parts jR
 have q0 : w.cell? ⟨c, 0, none⟩ = some (.slice a n cap) := hr.cell 0
 have hlt := hr.lt
 have HO := zH ho; have HR := zH hr; clear ho hr
 have tok1 : True := trivial
 go_enter Try.func59, Try.ntmps59
 go_wp2_with (first | (at_builtin; have _t := tok1; clear tok1; clear _t; refine zI (B := B) rfl _ _ _ _ rfl ii (.int .i64 0) 8 Try.underlying22 hii hz0i hz1i hz2i rfl rfl (HO.out.alloc _) _ rfl _ _ (zP (e' := 3) Try.underlying22 w #[.int .i64 p] 3 1 1 rfl (by simp [Value.oneCell'])) (by simp only [maxLen]; omega) (by omega) (by first | omega | (simp; omega) | simp) ?_; intro a5 cap5 w5 ho5 hc5 hn5); (have r5 : Rw w5 c #[.slice a n cap] 22 := (HR.out.alloc _).chg hc5 (by rintro ⟨_, h, _⟩; omega)); (have q1 := r5.cell 0); (have q2 := r5.frozen); (have q3 := r5.lt); (have HO5 := zH ho5); (have HC5 := zH hc5); (have HR5 := zH r5); clear ho5 hc5 r5 q0)
 go_ret
 refine ⟨rfl, a5, cap5, HR5.out.set 0 _, ?_, ?_, ?_⟩
 ·rw [yT]; exact HO5.out.setBelow hcB _
 ·exact (((Chg.refl (fun k => k = c ∨ (blk a k ∧ B ≤ k)) w).alloc _).trans HC5.out (fun k _ h => .inr ⟨h.1, h.2.1⟩)).setCell (.inr (.inl rfl)) _
 ·intro k hk
  rcases hn5 k hk with h | h
  ·exact .inl h
  ·exact .inr (by simp at h; omega)
open Go.RowKit Go.Shr
def zKv : Value → Nat
 | .slice _ n _ => n
 | _ => 0
structure WI (W0 : World) (c : Nat) (wr : World) (aS : Option Addr) (cS : Nat) (aO : Option Addr) (j cO : Nat) (st : Stk) (ps : List Int) : Prop where
 r : Rw wr c #[.slice aO j cO] 22
 oO : Own W0.heap.size wr 3 1 aO j cO (zQ ps)
 oS : Own W0.heap.size wr 129 2 aS st.length cS (stc st)
 bO : ∀ k, blk aO k → k < wr.heap.size
 bS : ∀ k, blk aS k → k < wr.heap.size
 dis : ∀ k, blk aS k → ¬ blk aO k
 nO : ∀ k, blk aO k → W0.heap.size ≤ k
 nS : ∀ k, blk aS k → W0.heap.size ≤ k
 lt : c < W0.heap.size
 chg : Chg (fun k => k = c) W0 wr
theorem zDF {B : Nat} {w : World} {e : TypeId} {size : Nat} {a : Option Addr} {n cap : Nat} {xs : List Value} (h : Own B w e size a n cap xs) (hn : 0 < n) {k : Nat} (hk : blk a k) : B ≤ k ∧ k < w.heap.size := by
 obtain ⟨g, rfl, h1, h2, _⟩ := h.pos hn
 obtain ⟨o, s, e'⟩ := hk
 cases e'
 exact ⟨h1, h2⟩
section
variable {W0 : World} {c : Nat} {w w' : World} {aS : Option Addr} {cS : Nat} {aO : Option Addr} {j cO : Nat} {st : Stk} {ps : List Int}
theorem WI.alloc (h : WI W0 c w aS cS aO j cO st ps) (o : Obj) : WI W0 c (w.alloc o) aS cS aO j cO st ps :=
 ⟨h.r.alloc o, h.oO.alloc o, h.oS.alloc o, fun k hk => by have := h.bO k hk; simp; omega, fun k hk => by have := h.bS k hk; simp; omega, h.dis, h.nO, h.nS, h.lt, h.chg.alloc o⟩
theorem WI.pop (h : WI W0 c w aS cS aO j cO st ps) {st' : Stk} (ho : Own W0.heap.size w 129 2 aS st'.length cS (stc st')) : WI W0 c w aS cS aO j cO st' ps :=
 ⟨h.r, h.oO, ho, h.bO, h.bS, h.dis, h.nO, h.nS, h.lt, h.chg⟩
theorem WI.put (h : WI W0 c w aS cS aO j cO st ps) {x : Int} {a' : Option Addr} {cap' : Nat} (r : Rw w' c #[.slice a' (j + 1) cap'] 22) (ho : Own W0.heap.size w' 3 1 a' (j + 1) cap' (zQ (ps ++ [x]))) (hc : Chg (fun k => k = c ∨ (blk aO k ∧ W0.heap.size ≤ k)) w w') (hn : ∀ k, blk a' k → blk aO k ∨ w.heap.size ≤ k) :
  WI W0 c w' aS cS a' (j + 1) cap' st (ps ++ [x]) := by
 have hsz := h.chg.size
 refine ⟨r, ho, h.oS.chg hc (fun k hk hS => ?_), fun k hk => (zDF ho (by omega) hk).2, fun k hk => zLV (h.bS k hk) hc.size, fun k hk hk' => ?_, fun k hk => ?_, h.nS, h.lt, h.chg.trans hc (fun k hk hS => ?_)⟩
 ·rcases hS with e | ⟨h1, _⟩
  ·have := h.nS k hk; have := h.lt; omega
  ·exact h.dis k hk h1
 ·rcases hn k hk' with h1 | h1
  ·exact h.dis k hk h1
  ·have := h.bS k hk; omega
 ·exact (zDF ho (by omega) hk).1
 ·rcases hS with e | ⟨_, h2⟩
  ·exact e
  ·omega
theorem WI.push (h : WI W0 c w aS cS aO j cO st ps) {L : Nat} (hL : st.length = L) {x y : Int} {a' : Option Addr} {cap' : Nat} (ho : Own W0.heap.size w' 129 2 a' (L + 1) cap' (stc st ++ [.int .i64 x, .int .i64 y])) (hc : Chg (fun k => blk aS k ∧ W0.heap.size ≤ k ∧ 0 < cS) w w') (hn : ∀ k, blk a' k → blk aS k ∨ w.heap.size ≤ k) :
  WI W0 c w' a' cap' aO j cO ((x, y) :: st) ps := by
 subst hL
 have hsz := h.chg.size
 refine ⟨h.r.chg hc (fun ⟨_, h2, _⟩ => ?_), h.oO.chg hc (fun k hk ⟨h1, _⟩ => h.dis k h1 hk), by rw [wW]; exact ho, fun k hk => zLV (h.bO k hk) hc.size, fun k hk => (zDF ho (by omega) hk).2, fun k hk hk' => ?_, h.nO, fun k hk => (zDF ho (by omega) hk).1, h.lt, h.chg.trans hc (fun k hk ⟨_, h2, _⟩ => by omega)⟩
 ·have := h.lt; omega
 ·rcases hn k hk with h1 | h1
  ·exact h.dis k h1 hk'
  ·have := h.bO k hk'; omega
theorem WI.dec {g : Int × Int} {b : Nat} (h : WI W0 c w aS cS aO j cO (g :: st) ps) (ha : aS = some ⟨b, 0, none⟩) (n : Int) : WI W0 c (w.setCell ⟨b, st.length * 2 + 1, none⟩ (.int .i64 n)) aS cS aO j cO ((g.1, n) :: st) ps := by
 have hb : W0.heap.size ≤ b := h.nS b ⟨_, _, ha⟩
 have hlt := h.lt
 refine ⟨h.r.other (by simp; omega) _, h.oO.setCell (fun k hk => ?_) _, ?_, fun k hk => by have := h.bO k hk; simpa using this, fun k hk => by have := h.bS k hk; simpa using this, h.dis, h.nO, h.nS, hlt, h.chg.setCell (.inl hb) _⟩
 ·intro e; simp at e; subst e; exact h.dis _ ⟨_, _, ha⟩ hk
 ·rw [← zJQ]; exact h.oS.stored ha _ _
end
def zLc (c : Nat) (ps : List Int) (n : Nat) (W0 : World) (e : Ending) (w' : World) : Prop :=
 (∃ b, e = .returned (.bool b)) ∧ ∃ aO cO, Rw w' c #[.slice aO n cO] 22 ∧ Own W0.heap.size w' 3 1 aO n cO (zQ ps) ∧ Chg (fun k => k = c) W0 w'
theorem zID (a : Option Addr) (n cap : Nat) (l : List Fl) (c : Nat) (W0 : World) (hs : Sl (fun b => b < W0.heap.size ∧ b ≠ c) W0 4 a n cap (fls l)) (hr : Rw W0 c #[.slice none 0 0] 22) (hn : n ≤ 1000) (hkid : ∀ x ∈ l, x.kids ≤ 1000) :
  Calls Try.prog 58 #[.slice a n cap, .func (.func 59) #[] #[.pointer (some ⟨c, 0, none⟩)]] W0 (zLc c (par l) n W0) := by
 obtain ⟨ig, hig, hz0g, hz1g, hz2g⟩ := info_parts zK1
 have hlen : l.length = n := by have := hs.len; rw [wG] at this; omega
 have hcW := hr.lt
 have HS := zH hs; have HR := zH hr; have HKID := zH hkid; clear hs hr hkid
 go_enter Try.func58, Try.ntmps58
 go_wp2_with fail
 go_loopw [4, 5, 14] (fun s4 s5 i wr => ∃ (j : Nat) (aS aO : Option Addr) (cS cO L : Nat) (st : Stk), s4 = .bool false ∧ s5 = .slice aS L cS ∧ i = .int .i64 j ∧ j ≤ n ∧ L ≤ j ∧ Hid (st.length = L) ∧ Hid (st = zAH 0 [] (l.take j)) ∧ Hid (WI W0 c wr aS cS aO j cO st (qZ 0 [] (l.take j))))
  (fun _ _ i _ => n - (intOf i).toNat)
 case atStart =>
  exact ⟨0, none, none, 0, 0, 0, [], rfl, rfl, rfl, Nat.zero_le _, zLX _, zH rfl, zH rfl, zH ⟨HR.out, Own.nil _ _ _ _, Own.nil _ _ _ _, fun k ⟨_, _, h⟩ => (by cases h), fun k ⟨_, _, h⟩ => (by cases h), fun k ⟨_, _, h⟩ => (by cases h), fun k ⟨_, _, h⟩ => (by cases h), fun k ⟨_, _, h⟩ => (by cases h), hcW, Chg.refl _ _⟩⟩
 case round =>
  obtain ⟨j, aS, aO, cS, cO, L, st, rfl, rfl, rfl, hj, hL, HL, HST, HW⟩ := hrel
  by_cases hlt : j < n
  ·obtain ⟨b, off, rfl, ⟨hb1, hb2⟩, hcc⟩ := HS.out.pos (by omega)
   obtain ⟨e0, e1, e2, e3⟩ := yB l j (by omega)
   have hk : ∀ {o u}, W0.cell? ⟨b, o, none⟩ = some u → wr.cell? ⟨b, o, none⟩ = some u := fun h => HW.out.chg.keep h hb2
   replace e0 := hk (hcc _ _ e0); replace e1 := hk (hcc _ _ e1); replace e2 := hk (hcc _ _ e2); replace e3 := hk (hcc _ _ e3)
   rw [← Nat.add_assoc] at e1 e2 e3
   have HX : Hid (l.take (j + 1) = l.take j ++ [l[j]]) := zH (List.take_succ_eq_append_getElem (by omega))
   have HPF : Hid (qZ 0 [] (l.take (j + 1)) = qZ 0 [] (l.take j) ++ [zCJ st]) := zH (by rw [HX.out, zCy, ← HST.out])
   have HSF : Hid (zAH 0 [] (l.take (j + 1)) = jE j l[j] st) := zH (by rw [HX.out, zCt, ← HST.out, List.length_take, show 0 + min j l.length = j by omega])
   have HLE : Hid (∀ g ∈ st, g.2 ≤ 1000) := zH (by rw [HST.out]; exact zHe (by decide) _ _ _ (fun x hx => HKID.out x (List.mem_of_mem_take hx)) (by simp))
   have HFK : Hid (l[j].kids ≤ 1000) := zH (HKID.out _ (List.getElem_mem (by omega)))
   generalize l[j] = f at *
   have hszW := HW.out.chg.size
   clear hcc hk
   go_wp2_with fail
   have r7 := Rw.new wr #[.string f.name, .int .i64 f.rep, .int .i64 f.kind, .int .i64 f.kids] 62
   have hb7O := HW.out.bO; have hb7S := HW.out.bS
   have hw1 := HW.out.alloc (.cells #[.string f.name, .int .i64 f.rep, .int .i64 f.kind, .int .i64 f.kids] 62)
   have hsz1 : (wr.alloc (.cells #[.string f.name, .int .i64 f.rep, .int .i64 f.kind, .int .i64 f.kids] 62)).heap.size = wr.heap.size + 1 := by simp
   generalize wr.alloc (.cells #[.string f.name, .int .i64 f.rep, .int .i64 f.kind, .int .i64 f.kids] 62) = w1 at r7 hw1 hsz1 ⊢
   generalize hb7 : wr.heap.size = b7 at r7 hszW hsz1 hb7O hb7S ⊢
   have H7O := zH hb7O; have H7S := zH hb7S; clear hb7O hb7S
   have HW1 := zH hw1; have R7 := zH r7
   clear hw1 r7 e0 e1 e2 e3 HW hb7
   go_loop [5] (fun s5 => ∃ (L' : Nat) (st' : Stk), s5 = .slice aS L' cS ∧ L' ≤ L ∧ Hid (st'.length = L') ∧ Hid (qH st' = qH st) ∧ Hid (Own W0.heap.size w1 129 2 aS L' cS (stc st'))) (fun s5 => zKv s5)
   case atStart => exact ⟨L, st, rfl, zLX _, HL, zH rfl, zH (HL.out ▸ HW1.out.oS)⟩
   case round =>
    obtain ⟨L', st', rfl, hL', HL', HP', HO'⟩ := hrel
    rcases st' with _ | ⟨g, r⟩
    ·obtain rfl : L' = 0 := HL'.out.symm
     go_wp2_with fail
     have HPOP : Hid (qH st = []) := zH HP'.out.symm
     have HPSEQ : Hid (qZ 0 [] (l.take j) ++ [(-1 : Int)] = qZ 0 [] (l.take j) ++ [zCJ st]) := zH (by unfold zCJ; rw [HPOP.out])
     have HLN2 : Hid (([] : Stk).length = 0) := zH rfl
     have HW1' := zH (HW1.out.pop (st' := []) HO'.out)
     refine (zHn j (-1) 0 W0.heap.size c aO j cO (qZ 0 [] (l.take j)) w1 HW1.out.r HW1.out.oO (by omega) HW1.out.lt HW1.out.chg.size).mono ?_
     rintro e w2 ⟨rfl, aO2, cO2, r2, o2, hc2, n2⟩
     have HW2 := zH (HW1'.out.put r2 o2 hc2 n2)
     clear r2 o2 n2
     have hsz2 := HW2.out.chg.size
     have R72 := zH (R7.out.chg hc2 (by rintro (h | ⟨h, _⟩); have := HW2.out.lt; omega; have := H7O.out _ h; omega))
     have d2 : w2.cell? ⟨b7, 2, none⟩ = some (.int .i64 f.kind) := R72.out.cell 2
     have d3 : w2.cell? ⟨b7, 3, none⟩ = some (.int .i64 f.kids) := R72.out.cell 3
     clear hc2
     by_cases hkd : f.kind = 0
     ·have hkb : (f.kind == 0) = true := beq_iff_eq.2 hkd
      have hkids : f.kids ≤ 1000 := HFK.out
      rw [hkd] at d2
      have HN2 : Hid (zAH 0 [] (l.take (j + 1)) = ((j : Int), f.kids) :: []) := zH (by rw [HSF.out]; unfold jE; rw [HPOP.out, if_pos hkd])
      clear hkd hkb
      have tok1 : True := trivial
      go_wp2_with (first | (at_builtin; have _t := tok1; clear tok1; clear _t; refine zI (B := W0.heap.size) rfl _ _ _ _ rfl ig (.agg #[.int .i64 0, .int .i64 0]) 16 Try.underlying127 hig hz0g hz1g hz2g rfl rfl (HW2.out.oS.alloc _) _ rfl _ _ (zP (e' := 129) Try.underlying127 w2 #[.int .i64 (j : Int), .int .i64 f.kids] 129 1 2 rfl (by simp [Value.oneCell'])) (by simp only [maxLen]; omega) (by omega) (by first | omega | (simp; omega) | simp) ?_; intro a5 cap5 w5 ho5 hc5 hn5))
      have HW5 := zH ((HW2.out.alloc (.cells #[.int .i64 (j : Int), .int .i64 f.kids] 129)).push HLN2.out ho5 hc5 hn5)
      clear ho5 hc5 hn5
      go_roundw
      case rel => exact ⟨j + 1, a5, aO2, cap5, cO2, _, _, rfl, rfl, by go_num, by omega, by omega, zH (by rw [HN2.out, zLU, HLN2.out]), zH rfl, zH (by rw [HN2.out, HPF.out]; exact HPSEQ.out ▸ HW5.out)⟩
      case measure => simp [intOf]; omega
     ·have hkb : (f.kind == 0) = false := beq_eq_false_iff_ne.2 hkd
      have HN2 : Hid (zAH 0 [] (l.take (j + 1)) = []) := zH (by rw [HSF.out]; unfold jE; rw [HPOP.out, if_neg hkd])
      clear hkd
      go_wp2_with fail
      go_roundw
      case rel => exact ⟨j + 1, _, aO2, cS, cO2, _, _, rfl, rfl, by go_num, by omega, by omega, zH (by rw [HN2.out]; exact HLN2.out), zH rfl, zH (by rw [HN2.out, HPF.out]; exact HPSEQ.out ▸ HW2.out)⟩
      case measure => simp [intOf]; omega
    ·obtain ⟨q, rfl⟩ : ∃ q, L' = q + 1 := ⟨r.length, HL'.out.symm⟩
     have HQ : Hid (r.length = q) := zH (by have := HL'.out; simp at this; omega)
     obtain ⟨bs, rfl, hbs1, hbs2, hbc, hbf⟩ := HO'.out.pos (by omega)
     obtain ⟨t0, t1⟩ := zHf g r
     rw [HQ.out] at t0 t1
     replace t0 := hbc _ _ t0; replace t1 := hbc _ _ t1
     have hbfz := hbf (q * 2 + 1)
     clear hbc hbf
     by_cases hg : g.2 ≤ 0
     ·have hgb : decide (g.2 ≤ 0) = true := decide_eq_true hg
      have hup := HO'.out.upto (P := Try.prog) (t := 127) Try.underlying127 hig hz1g .i64 (q : Int) (by omega) (by omega)
      obtain ⟨hrun, hown⟩ := hup
      rw [show ((q : Int)).toNat = q by omega, ← HQ.out, zIF, HQ.out] at hown
      rw [show ((q : Int)).toNat = q by omega] at hrun
      have HOW := zH hown; clear hown
      go_wp2_with fail
      go_round
      case rel => exact ⟨q, r, rfl, by omega, HQ, zH (by rw [← HP'.out]; simp [qH, hg]), HOW⟩
      case measure => simp [zKv]
     ·have hgb : decide (g.2 ≤ 0) = false := decide_eq_false hg
      have hg2 : 0 < g.2 := by omega
      clear hg
      have HPOP : Hid (qH st = g :: r) := zH (by rw [← HP'.out]; unfold qH; rw [if_neg (by omega)])
      have hg3 : g.2 ≤ 1000 := HLE.out g (zCb st g (by rw [HPOP.out]; exact zLP ..))
      have HPSEQ : Hid (qZ 0 [] (l.take j) ++ [g.1] = qZ 0 [] (l.take j) ++ [zCJ st]) := zH (by unfold zCJ; rw [HPOP.out])
      have HLN2 : Hid (((g.1, g.2 - 1) :: r : Stk).length = q + 1) := zH (by simp only [zLU]; rw [HQ.out])
      have HW1' := zH ((HW1.out.pop (st' := g :: r) (HL'.out.symm ▸ HO'.out)).dec rfl (g.2 - 1))
      go_wp2_with fail
      rw [HQ.out] at HW1'
      have R7 := zH (R7.out.other (p := ⟨bs, q * 2 + 1, none⟩) (by have := H7S.out bs ⟨_, _, rfl⟩; simp; omega) (.int .i64 (g.2 - 1)))
      refine (zHn j g.1 (q + 1) W0.heap.size c aO j cO (qZ 0 [] (l.take j)) _ HW1'.out.r HW1'.out.oO (by omega) HW1'.out.lt HW1'.out.chg.size).mono ?_
      rintro e w2 ⟨rfl, aO2, cO2, r2, o2, hc2, n2⟩
      have HW2 := zH (HW1'.out.put r2 o2 hc2 n2)
      clear r2 o2 n2
      have hsz2 := HW2.out.chg.size
      have R72 := zH (R7.out.chg hc2 (by rintro (h | ⟨h, _⟩); have := HW2.out.lt; omega; have := H7O.out _ h; omega))
      have d2 : w2.cell? ⟨b7, 2, none⟩ = some (.int .i64 f.kind) := R72.out.cell 2
      have d3 : w2.cell? ⟨b7, 3, none⟩ = some (.int .i64 f.kids) := R72.out.cell 3
      clear hc2
      by_cases hkd : f.kind = 0
      ·have hkb : (f.kind == 0) = true := beq_iff_eq.2 hkd
       have hkids : f.kids ≤ 1000 := HFK.out
       rw [hkd] at d2
       have HN2 : Hid (zAH 0 [] (l.take (j + 1)) = ((j : Int), f.kids) :: ((g.1, g.2 - 1) :: r)) := zH (by rw [HSF.out]; unfold jE; rw [HPOP.out, if_pos hkd])
       clear hkd hkb
       have tok1 : True := trivial
       go_wp2_with (first | (at_builtin; have _t := tok1; clear tok1; clear _t; refine zI (B := W0.heap.size) rfl _ _ _ _ rfl ig (.agg #[.int .i64 0, .int .i64 0]) 16 Try.underlying127 hig hz0g hz1g hz2g rfl rfl ((HLN2.out ▸ HW2.out.oS).alloc _) _ rfl _ _ (zP (e' := 129) Try.underlying127 w2 #[.int .i64 (j : Int), .int .i64 f.kids] 129 1 2 rfl (by simp [Value.oneCell'])) (by simp only [maxLen]; omega) (by omega) (by first | omega | (simp; omega) | simp) ?_; intro a5 cap5 w5 ho5 hc5 hn5))
       have HW5 := zH ((HW2.out.alloc (.cells #[.int .i64 (j : Int), .int .i64 f.kids] 129)).push HLN2.out ho5 hc5 hn5)
       clear ho5 hc5 hn5
       go_roundw
       case rel => exact ⟨j + 1, a5, aO2, cap5, cO2, _, _, rfl, rfl, by go_num, by omega, by omega, zH (by rw [HN2.out, zLU, HLN2.out]), zH rfl, zH (by rw [HN2.out, HPF.out]; exact HPSEQ.out ▸ HW5.out)⟩
       case measure => simp [intOf]; omega
      ·have hkb : (f.kind == 0) = false := beq_eq_false_iff_ne.2 hkd
       have HN2 : Hid (zAH 0 [] (l.take (j + 1)) = ((g.1, g.2 - 1) :: r)) := zH (by rw [HSF.out]; unfold jE; rw [HPOP.out, if_neg hkd])
       clear hkd
       go_wp2_with fail
       go_roundw
       case rel => exact ⟨j + 1, _, aO2, cS, cO2, _, _, rfl, rfl, by go_num, by omega, by omega, zH (by rw [HN2.out]; exact HLN2.out), zH rfl, zH (by rw [HN2.out, HPF.out]; exact HPSEQ.out ▸ HW2.out)⟩
       case measure => simp [intOf]; omega
  ·obtain rfl : j = n := by omega
   have HT : Hid (l.take j = l) := zH (List.take_of_length_le (by omega))
   clear hlt
   go_wp2_with fail
   go_loopw [4, 76] (fun b i wk => ∃ (k : Nat) (bb : Bool), b = .bool bb ∧ i = .int .i64 k ∧ k ≤ L ∧ Hid (WI W0 c wk aS cS aO j cO st (qZ 0 [] (l.take j)))) (fun _ i _ => L - (intOf i).toNat)
   case atStart => exact ⟨0, _, rfl, rfl, Nat.zero_le _, HW⟩
   case round =>
    obtain ⟨k, bb, rfl, rfl, hk, HK⟩ := hrel
    by_cases hkl : k < L
    ·obtain ⟨x, y, hx, hy⟩ := zHg st k (by rw [HL.out]; exact hkl)
     obtain ⟨bs, rfl, hbs1, hbs2, hbc, hbf⟩ := HK.out.oS.pos (by rw [HL.out]; omega)
     replace hx := hbc _ _ hx; replace hy := hbc _ _ hy
     clear hbc hbf
     have HK' := zH (HK.out.alloc (.cells #[.int .i64 x, .int .i64 y] 129))
     cases bb
     ·go_wp2_with fail
      go_roundw
      case rel => exact ⟨k + 1, _, rfl, by go_num, by omega, HK'⟩
      case measure => simp [intOf]; omega
     ·go_wp2_with fail
      go_roundw
      case rel => exact ⟨k + 1, _, rfl, by go_num, by omega, HK'⟩
      case measure => simp [intOf]; omega
    ·obtain rfl : k = L := by omega
     clear hkl
     go_wp2_with fail
     go_ret
     refine ⟨⟨bb, rfl⟩, aO, cO, HK.out.r, ?_, HK.out.chg⟩
     have h := HK.out.oO
     rw [HT.out] at h
     exact h
open Go.RowKit Go.Shr
theorem hmf : ∀ (fn : Fn) (first cap : Array Value) (w : World), (Instr.makeFunc fn first cap).run Try.prog w = .ok (.func fn first cap) w := fun _ _ _ _ => rfl
theorem zGJ (a : Option Addr) (n cap : Nat) (l : List Fl) (w : World) (hs : Sl (fun b => b < w.heap.size) w 4 a n cap (fls l)) (hn : n ≤ 1000) (hkid : ∀ x ∈ l, x.kids ≤ 1000) :
  Calls Try.prog 39 #[.slice a n cap] w fun e w' => ∃ a' cap', e = .returned (.slice a' n cap') ∧ Own w.heap.size w' 3 1 a' n cap' (zQ (par l)) ∧ Below w.heap.size w w' := by
 have hmf' := hmf
 have hs1 : Sl (fun b => b < (w.alloc (.cells #[.slice none 0 0] 22)).heap.size ∧ b ≠ w.heap.size) (w.alloc (.cells #[.slice none 0 0] 22)) 4 a n cap (fls l) :=
  (hs.alloc _).mono (fun k _ hk => ⟨by simp; omega, by omega⟩) (by decide)
 have HS := zH hs1; have HK := zH hkid; clear hs hs1 hkid
 have HR := zH (Rw.new w #[.slice none 0 0] 22)
 go_enter Try.func39, Try.ntmps39
 go_wp2_with fail
 refine (zID a n cap l w.heap.size _ HS.out HR.out hn HK.out).mono ?_
 rintro e w1 ⟨⟨b, rfl⟩, aO, cO, r1, o1, c1⟩
 have q0 : w1.cell? ⟨w.heap.size, 0, none⟩ = some (.slice aO n cO) := r1.cell 0
 have hb1 : Below w.heap.size w w1 := ⟨c1.os, c1.tape, c1.output, by have := c1.size; simp at this; omega, fun k hk => (c1.block k (by simp; omega) (by omega)).trans (Below.heap_alloc w _ k hk)⟩
 have HO := zH o1.sl; have HB := zH hb1
 clear r1 o1 c1 hb1
 go_wp2_with fail
 refine (zKj _ aO n cO _ w1 HO.out (zDP _) (by omega)).mono ?_
 rintro e w2 ⟨a', cap', rfl, ho, hb⟩
 have HO2 := zH (ho.mono HB.out.size); have HB2 := zH (bt HB.out hb)
 clear ho hb
 go_wp2_with fail
 go_ret
 exact ⟨a', cap', rfl, HO2.out, HB2.out⟩
def zK (P : List Int) (k : Int) : List Int := ((List.range P.length).filter fun i => P.getD i 0 == k).map fun (i : Nat) => (i : Int)
theorem qK (P : List Int) (p k : Int) : zK (P ++ [p]) k = zK P k ++ if p = k then [(P.length : Int)] else [] := by
 unfold zK
 rw [zLZ, zLY, List.range_succ, List.filter_append, List.map_append]
 congr 1
 ·congr 1
  refine List.filter_congr fun i hi => ?_
  have := List.mem_range.1 hi
  simp [zLS this]
 ·have e : (P ++ [p]).getD P.length 0 = p := by simp
  rw [List.filter_cons, e]
  by_cases h : p = k
  ·simp [h]
  ·simp [h]
theorem zB0 (k : Int) : zK [] k = [] := rfl
theorem zDw {P : List Int} {k : Int} {i : Int} (h : i ∈ zK P k) : 0 ≤ i ∧ i < P.length ∧ P.getD i.toNat 0 = k := by
 simp only [zK, List.mem_map, List.mem_filter, List.mem_range] at h
 obtain ⟨j, ⟨h1, h2⟩, rfl⟩ := h
 exact ⟨by omega, by omega, by simpa using h2⟩
theorem zB1 (P : List Int) (k : Int) : (zK P k).length ≤ P.length := by
 unfold zK
 rw [List.length_map]
 exact Nat.le_trans (List.length_filter_le _ _) (by simp)
structure KI (B : Nat) (w : World) (bk n : Nat) (cur : Array Value) (aa : Nat → Option Addr) (cc : Nat → Nat) (K : Nat → List Int) : Prop where
 row : Rw w bk cur 22
 at' : ∀ k, k < n → cur[k]? = some (.slice (aa k) (K k).length (cc k))
 own : ∀ k, k < n → Own B w 3 1 (aa k) (K k).length (cc k) (zQ (K k))
 lt : ∀ k g, k < n → blk (aa k) g → g < w.heap.size ∧ bk < g ∧ B ≤ g
 dis : ∀ k j g, k < n → j < n → k ≠ j → blk (aa k) g → ¬ blk (aa j) g
theorem KI.below {B : Nat} {w w' : World} {bk n : Nat} {cur : Array Value} {aa : Nat → Option Addr} {cc : Nat → Nat} {K : Nat → List Int} (h : KI B w bk n cur aa cc K) (hb : Below w.heap.size w w') : KI B w' bk n cur aa cc K :=
 ⟨h.row.below hb, h.at', fun k hk => (h.own k hk).below hb, fun k g hk hg => ⟨zLV (h.lt k g hk hg).1 hb.size, (h.lt k g hk hg).2⟩, h.dis⟩
theorem KI.push {B : Nat} {w w' : World} {bk n : Nat} {cur : Array Value} {aa : Nat → Option Addr} {cc : Nat → Nat} {K : Nat → List Int} (h : KI B w bk n cur aa cc K) (k : Nat) (hk : k < n) {a' : Option Addr} {c' : Nat} {x : Int} (hbk : bk < B)
  (ho : Own B w' 3 1 a' ((K k).length + 1) c' (zQ (K k ++ [x]))) (hc : Chg (fun g => blk (aa k) g ∧ B ≤ g ∧ 0 < cc k) w w') (hn : ∀ g, blk a' g → blk (aa k) g ∨ w.heap.size ≤ g) :
  KI B (w'.setCell ⟨bk, k, none⟩ (.slice a' ((K k).length + 1) c')) bk n (cur.setIfInBounds k (.slice a' ((K k).length + 1) c')) (fun j => if j = k then a' else aa j) (fun j => if j = k then c' else cc j) (fun j => if j = k then K k ++ [x] else K j) := by
 have hsz := hc.size
 have hblk : ∀ g, blk a' g → B ≤ g ∧ g < w'.heap.size := fun g hg => by
  obtain ⟨g', rfl, h1, h2, _⟩ := ho.pos (by omega)
  obtain ⟨o, s, e'⟩ := hg
  cases e'
  exact ⟨h1, h2⟩
 have hks : k < cur.size := (Array.getElem?_eq_some_iff.1 (h.at' k hk)).1
 refine ⟨(h.row.chg hc (fun ⟨_, h2, _⟩ => by omega)).set k _, fun j hj => ?_, fun j hj => ?_, fun j g hj hg => ?_, fun i j g hi hj hij hg hg' => ?_⟩
 ·by_cases hjk : j = k
  ·subst hjk; simp [hks]
  ·simp only [if_neg hjk]
   rw [Array.getElem?_setIfInBounds_ne (Ne.symm hjk)]; exact h.at' j hj
 ·by_cases hjk : j = k
  ·subst hjk
   simp only [if_true, zLZ, zLY]
   exact ho.setBelow hbk _
  ·simp only [if_neg hjk]
   exact ((h.own j hj).chg hc (fun g hg ⟨h1, _⟩ => h.dis j k g hj hk hjk hg h1)).setBelow hbk _
 ·by_cases hjk : j = k
  ·subst hjk
   simp only [if_true] at hg
   have := hblk g hg
   exact ⟨by simpa using this.2, by omega, this.1⟩
  ·simp only [if_neg hjk] at hg
   have := h.lt j g hj hg
   exact ⟨by simp; omega, this.2⟩
 ·by_cases hik : i = k
  ·subst hik
   simp only [if_true] at hg
   rw [if_neg (Ne.symm hij)] at hg'
   rcases hn g hg with h1 | h1
   ·exact h.dis i j g hi hj hij h1 hg'
   ·have := (h.lt j g hj hg').1; omega
  ·simp only [if_neg hik] at hg
   by_cases hjk : j = k
   ·subst hjk
    simp only [if_true] at hg'
    rcases hn g hg' with h1 | h1
    ·exact h.dis i j g hi hj hij hg h1
    ·have := (h.lt i g hi hg).1; omega
   ·simp only [if_neg hjk] at hg'
    exact h.dis i j g hi hj hij hg hg'
def zD5 (w : World) (bk n : Nat) (K : Nat → List Int) : Prop := ∀ k, k < n → ∃ a c, w.cell? ⟨bk, k, none⟩ = some (.slice a (K k).length c) ∧ Sl (fun b => b < w.heap.size) w 1 a (K k).length c (zQ (K k))
theorem zD5.below {w w' : World} {bk n : Nat} {K : Nat → List Int} (h : zD5 w bk n K) (hb : Below w.heap.size w w') : zD5 w' bk n K := fun k hk => by
 obtain ⟨a, c, h1, h2⟩ := h k hk
 exact ⟨a, c, cb hb h1, slb h2 hb⟩
theorem KI.kids {B : Nat} {w : World} {bk n : Nat} {cur : Array Value} {aa : Nat → Option Addr} {cc : Nat → Nat} {K : Nat → List Int} (h : KI B w bk n cur aa cc K) : zD5 w bk n K := fun k hk =>
 ⟨aa k, cc k, (h.row.cell k).trans (h.at' k hk), (h.own k hk).sl.mono (fun b _ hb => hb.2.2) (by decide)⟩
end Go.Proofs.Ytjbkjfefjhbolaa
namespace Go.Shr
open Go.RowKit
inductive Tr where
 | mk (n : Int) (s : ByteArray) (kids : List (List Tr))
def Tr.n : Tr → Int | .mk n _ _ => n
def Tr.s : Tr → ByteArray | .mk _ s _ => s
def Tr.kids : Tr → List (List Tr) | .mk _ _ k => k
mutual
def Tr.size : Tr → Nat
 | .mk _ _ ks => 1 + zDZ ks
def zDZ : List (List Tr) → Nat
 | [] => 0
 | l :: r => zFs l + zDZ r
def zFs : List Tr → Nat
 | [] => 0
 | t :: r => t.size + zFs r
end
theorem zEi {t : Tr} : ∀ {l : List Tr}, t ∈ l → t.size ≤ zFs l
 | x :: l, h => by
  rcases zLR.1 h with rfl | h
  ·simp [zFs]
  ·have := zEi h; simp only [zFs]; omega
theorem zDc {x : List Tr} : ∀ {l : List (List Tr)}, x ∈ l → zFs x ≤ zDZ l
 | y :: l, h => by
  rcases zLR.1 h with rfl | h
  ·simp [zDZ]
  ·have := zDc h; simp only [zDZ]; omega
theorem zDO {t : Tr} {x : List Tr} {y : Tr} (hx : x ∈ t.kids) (hy : y ∈ x) : y.size < t.size := by
 obtain ⟨n, s, ks⟩ := t
 have h1 := zEi hy
 have h2 := zDc (show x ∈ ks from hx)
 simp only [Tr.size]; omega
mutual
def xS (w : World) : Tr → List Value → Prop
 | .mk n s ks, cs => ∃ a m cap xs, cs = [.int .i64 n, .string s, .slice a m cap] ∧ s.size ≤ maxLen ∧ Sl (fun b => b < w.heap.size) w 1 a m cap xs ∧ xO w ks xs
def xO (w : World) : List (List Tr) → List Value → Prop
 | [], xs => xs = []
 | l :: r, xs => ∃ a m cap ys xr, xs = .slice a m cap :: xr ∧ m = l.length ∧ Sl (fun b => b < w.heap.size) w 3 a m cap ys ∧ yN w l ys ∧ xO w r xr
def yN (w : World) : List Tr → List Value → Prop
 | [], ys => ys = []
 | t :: r, ys => ∃ c0 c1 c2 yr, ys = c0 :: c1 :: c2 :: yr ∧ xS w t [c0, c1, c2] ∧ yN w r yr
end
mutual
theorem xS.below {w w' : World} (hb : Below w.heap.size w w') : ∀ (t : Tr) (cs : List Value), xS w t cs → xS w' t cs
 | .mk n s ks, cs, h => by
  simp only [xS] at h ⊢
  obtain ⟨a, m, cap, xs, h1, h2, h3, h4⟩ := h
  exact ⟨a, m, cap, xs, h1, h2, slb h3 hb, xO.below hb ks xs h4⟩
theorem xO.below {w w' : World} (hb : Below w.heap.size w w') : ∀ (ks : List (List Tr)) (xs : List Value), xO w ks xs → xO w' ks xs
 | [], xs, h => by simpa only [xO] using h
 | l :: r, xs, h => by
  simp only [xO] at h ⊢
  obtain ⟨a, m, cap, ys, xr, h1, h2, h3, h4, h5⟩ := h
  exact ⟨a, m, cap, ys, xr, h1, h2, slb h3 hb, yN.below hb l ys h4, xO.below hb r xr h5⟩
theorem yN.below {w w' : World} (hb : Below w.heap.size w w') : ∀ (l : List Tr) (ys : List Value), yN w l ys → yN w' l ys
 | [], ys, h => by simpa only [yN] using h
 | t :: r, ys, h => by
  simp only [yN] at h ⊢
  obtain ⟨c0, c1, c2, yr, h1, h2, h3⟩ := h
  exact ⟨c0, c1, c2, yr, h1, xS.below hb t _ h2, yN.below hb r yr h3⟩
end
theorem xO.len {w : World} : ∀ {ks : List (List Tr)} {xs : List Value}, xO w ks xs → xs.length = ks.length
 | [], xs, h => by simp only [xO] at h; subst h; rfl
 | l :: r, xs, h => by
  simp only [xO] at h
  obtain ⟨a, m, cap, ys, xr, rfl, _, _, _, h5⟩ := h
  simp [xO.len h5]
theorem yN.len {w : World} : ∀ {l : List Tr} {ys : List Value}, yN w l ys → ys.length = l.length * 3
 | [], xs, h => by simp only [yN] at h; subst h; rfl
 | t :: r, xs, h => by
  simp only [yN] at h
  obtain ⟨c0, c1, c2, yr, rfl, _, h3⟩ := h
  have := yN.len h3
  simp; omega
theorem xO.get {w : World} : ∀ {ks : List (List Tr)} {xs : List Value} (_ : xO w ks xs) (k : Nat) (hk : k < ks.length),
  ∃ a cap ys, xs[k]? = some (.slice a (ks[k]).length cap) ∧ Sl (fun b => b < w.heap.size) w 3 a (ks[k]).length cap ys ∧ yN w ks[k] ys
 | l :: r, xs, h, 0, _ => by
  simp only [xO] at h
  obtain ⟨a, m, cap, ys, xr, rfl, rfl, h3, h4, _⟩ := h
  exact ⟨a, cap, ys, rfl, h3, h4⟩
 | l :: r, xs, h, k + 1, hk => by
  simp only [xO] at h
  obtain ⟨a, m, cap, ys, xr, rfl, _, _, _, h5⟩ := h
  simpa using xO.get h5 k (by simpa using hk)
theorem yN.get {w : World} : ∀ {l : List Tr} {ys : List Value} (_ : yN w l ys) (k : Nat) (hk : k < l.length),
  ∃ a m cap xs, ys[k * 3]? = some (.int .i64 l[k].n) ∧ ys[k * 3 + 1]? = some (.string l[k].s) ∧ ys[k * 3 + 2]? = some (.slice a m cap) ∧ m = l[k].kids.length ∧ l[k].s.size ≤ maxLen ∧ Sl (fun b => b < w.heap.size) w 1 a m cap xs ∧ xO w l[k].kids xs
 | t :: r, ys, h, 0, _ => by
  simp only [yN] at h
  obtain ⟨c0, c1, c2, yr, rfl, h2, _⟩ := h
  obtain ⟨n, s, ks⟩ := t
  simp only [xS] at h2
  obtain ⟨a, m, cap, xs, hc, h3, h4, h5⟩ := h2
  simp at hc
  obtain ⟨rfl, rfl, rfl⟩ := hc
  refine ⟨a, m, cap, xs, rfl, rfl, rfl, ?_, h3, h4, h5⟩
  have := h4.len; have := h5.len
  simp only [List.getElem_cons_zero, Tr.kids]; omega
 | t :: r, ys, h, k + 1, hk => by
  simp only [yN] at h
  obtain ⟨c0, c1, c2, yr, rfl, _, h3⟩ := h
  rw [show (k + 1) * 3 = k * 3 + 1 + 1 + 1 by omega]
  simpa using yN.get h3 k (by simpa using hk)
theorem xS.mk' {w : World} {t : Tr} {a : Option Addr} {m cap : Nat} {xs : List Value} (hs : t.s.size ≤ maxLen) (h : Sl (fun b => b < w.heap.size) w 1 a m cap xs) (hk : xO w t.kids xs) : xS w t [.int .i64 t.n, .string t.s, .slice a m cap] := by
 obtain ⟨n, s, ks⟩ := t
 simp only [xS]
 exact ⟨a, m, cap, xs, rfl, hs, h, hk⟩
theorem xS.parts {w : World} {t : Tr} {cs : List Value} (h : xS w t cs) : ∃ a m cap xs, cs = [.int .i64 t.n, .string t.s, .slice a m cap] ∧ m = t.kids.length ∧ t.s.size ≤ maxLen ∧ Sl (fun b => b < w.heap.size) w 1 a m cap xs ∧ xO w t.kids xs := by
 obtain ⟨n, s, ks⟩ := t
 simp only [xS] at h
 obtain ⟨a, m, cap, xs, h1, h2, h3, h4⟩ := h
 refine ⟨a, m, cap, xs, h1, ?_, h2, h3, h4⟩
 have := h3.len; have := h4.len
 simp only [Tr.kids]; omega
def jM (kind : Int) (t : Tr) : Int :=
 if 0 < t.kids.length ∨ (kind = 4 ∧ t.n ≠ 0) ∨ (kind ≠ 4 ∧ t.s.toList ≠ []) then 13
 else if kind = 1 then (if t.n < 0 ∨ 1 < t.n then 14 else 0)
 else if kind = 2 then (if t.n < -2147483648 ∨ 2147483647 < t.n then 14 else 0)
 else if kind = 3 then 0
 else if 100 < t.s.size then 5 else 0
def qN (rep : Int) (m : Nat) : Int := if (rep ≠ 2 ∧ 1 < m) ∨ (rep = 0 ∧ m = 0) then 13 else if 50 < m then 4 else 0
def zAd : List Int → Int
 | [] => 0
 | e :: r => if e = 0 then zAd r else e
def Fl.none : Fl := ⟨ByteArray.empty, 0, 0, 0⟩
def jX (l : List Fl) (i : Int) : Fl := l.getD i.toNat Fl.none
mutual
def yL (l : List Fl) (K : Int → List Int) : Tr → Int → Int
 | .mk n s ks, i =>
  if (jX l i).kind ≠ 0 then jM (jX l i).kind (.mk n s ks)
  else if n ≠ 0 ∨ s.toList ≠ [] ∨ ks.length ≠ (K i).length then 13
  else zAi l K ks (K i)
def zAi (l : List Fl) (K : Int → List Int) : List (List Tr) → List Int → Int
 | [], _ => 0
 | x :: r, js => if qN (jX l (js.headD 0)).rep x.length ≠ 0 then qN (jX l (js.headD 0)).rep x.length else
   if jS l K x (js.headD 0) ≠ 0 then jS l K x (js.headD 0) else zAi l K r js.tail
def jS (l : List Fl) (K : Int → List Int) : List Tr → Int → Int
 | [], _ => 0
 | t :: r, i => if yL l K t i ≠ 0 then yL l K t i else jS l K r i
end
def qQ (l : List Fl) (K : Int → List Int) (x : List Tr) (i : Int) : Int := if qN (jX l i).rep x.length ≠ 0 then qN (jX l i).rep x.length else jS l K x i
theorem zAp (l : List Fl) (K : Int → List Int) (x : List Tr) (r : List (List Tr)) (js : List Int) : zAi l K (x :: r) js = if qQ l K x (js.headD 0) ≠ 0 then qQ l K x (js.headD 0) else zAi l K r js.tail := by
 simp only [zAi, qQ]
 by_cases h : qN (jX l (js.headD 0)).rep x.length = 0
 ·simp only [h, ne_eq, not_true_eq_false, if_false]
 ·simp only [h, ne_eq, not_false_eq_true, if_true]
theorem zBg (l : List Fl) (K : Int → List Int) (t : Tr) (i : Int) : yL l K t i = if (jX l i).kind ≠ 0 then jM (jX l i).kind t else if t.n ≠ 0 ∨ t.s.toList ≠ [] ∨ t.kids.length ≠ (K i).length then 13 else zAi l K t.kids (K i) := by
 obtain ⟨n, s, ks⟩ := t
 simp only [yL, Tr.n, Tr.s, Tr.kids]
 first | rfl | (congr 1; done) | (congr 2; done) | (split <;> (try rfl) <;> (split <;> rfl))
end Go.Shr
namespace Go.Proofs.Ytjbkjfefjhbolaa
open Go.RowKit Go.Shr
theorem zE6 (s : ByteArray) : s.toList.length = s.size := by rw [ByteArray.toList_eq]; simp
structure Wf (l : List Fl) : Prop where
 len : l.length ≤ 1000
 pos : 0 < l.length
 kids : ∀ x ∈ l, x.kids ≤ 1000
 kind : ∀ x ∈ l, 0 ≤ x.kind ∧ x.kind ≤ 4
def KF (l : List Fl) (i : Int) : List Int := zK (par l) i
theorem zBG (l : List Fl) (K : Int → List Int) (x : List Tr) (i : Int) (k : Nat) (h : k < x.length) : jS l K (x.drop k) i = if yL l K x[k] i ≠ 0 then yL l K x[k] i else jS l K (x.drop (k + 1)) i := by
 rw [zLT h]; simp only [jS]
theorem zEO (l : List Fl) (K : Int → List Int) (ks : List (List Tr)) (js : List Int) (k : Nat) (h : k < ks.length) (hj : k < js.length) : zAi l K (ks.drop k) (js.drop k) = if qQ l K ks[k] js[k] ≠ 0 then qQ l K ks[k] js[k] else zAi l K (ks.drop (k + 1)) (js.drop (k + 1)) := by
 rw [zLT h, zLT hj, zAp]; rfl
end Go.Proofs.Ytjbkjfefjhbolaa
