import Derived.Test.YtjbkjfefjhbolaakRegJ
import Derived.Test.YtjbkjfefjhbolaaProg
import Derived.Deep.CutRange
set_option linter.unusedSimpArgs false
set_option linter.unusedVariables false
namespace Go.Shr
open Go.RowKit
structure Fl where
 name : ByteArray
 rep : Int
 kind : Int
 kids : Int
def Fl.v (x : Fl) : Value := .agg #[.string x.name, .int .i64 x.rep, .int .i64 x.kind, .int .i64 x.kids]
def fls (l : List Fl) : List Value := l.flatMap fun x => [.string x.name, .int .i64 x.rep, .int .i64 x.kind, .int .i64 x.kids]
theorem fls_length (l : List Fl) : (fls l).length = l.length * 4 := by
 induction l with
 | nil => rfl
 | cons x l ih => simp [fls] at ih ⊢; omega
theorem fls_get : ∀ (l : List Fl) (k : Nat) (h : k < l.length), (fls l)[k * 4]? = some (.string l[k].name) ∧ (fls l)[k * 4 + 1]? = some (.int .i64 l[k].rep) ∧ (fls l)[k * 4 + 2]? = some (.int .i64 l[k].kind) ∧ (fls l)[k * 4 + 3]? = some (.int .i64 l[k].kids)
 | x :: l, 0, _ => by simp [fls]
 | x :: l, k + 1, h => by
  have := fls_get l k (by simpa using h)
  rw [show (k + 1) * 4 = k * 4 + 1 + 1 + 1 + 1 by omega]
  simpa [fls] using this
abbrev Stk := List (Int × Int)
def popS : Stk → Stk
 | [] => []
 | g :: r => if g.2 ≤ 0 then popS r else g :: r
def parS (st : Stk) : Int := match popS st with | [] => -1 | g :: _ => g.1
def nextS (i : Int) (f : Fl) (st : Stk) : Stk :=
 let st2 := match popS st with | [] => [] | g :: r => (g.1, g.2 - 1) :: r
 if f.kind = 0 then (i, f.kids) :: st2 else st2
def parF : Nat → Stk → List Fl → List Int
 | _, _, [] => []
 | i, st, f :: l => parS st :: parF (i + 1) (nextS i f st) l
def par (l : List Fl) : List Int := parF 0 [] l
def stkF : Nat → Stk → List Fl → Stk
 | _, st, [] => st
 | i, st, f :: l => stkF (i + 1) (nextS i f st) l
theorem parF_snoc : ∀ (l : List Fl) (i : Nat) (st : Stk) (f : Fl), parF i st (l ++ [f]) = parF i st l ++ [parS (stkF i st l)]
 | [], _, _, _ => rfl
 | x :: l, i, st, f => by simp only [List.cons_append, parF, stkF, parF_snoc l]
theorem stkF_snoc : ∀ (l : List Fl) (i : Nat) (st : Stk) (f : Fl), stkF i st (l ++ [f]) = nextS ((i + l.length : Nat) : Int) f (stkF i st l)
 | [], i, st, f => by simp [stkF]
 | x :: l, i, st, f => by
  simp only [List.cons_append, stkF, stkF_snoc l, List.length_cons]
  congr 1; omega
theorem parF_length : ∀ (l : List Fl) (i : Nat) (st : Stk), (parF i st l).length = l.length
 | [], _, _ => rfl
 | x :: l, i, st => by simp [parF, parF_length l]
theorem popS_len (st : Stk) : (popS st).length ≤ st.length := by
 induction st with
 | nil => exact Nat.le_refl _
 | cons g r ih => unfold popS; split <;> simp <;> omega
theorem popS_sub (st : Stk) : ∀ g ∈ popS st, g ∈ st := by
 induction st with
 | nil => exact fun _ h => h
 | cons x r ih => intro g hg; unfold popS at hg; split at hg; exact List.mem_cons_of_mem _ (ih g hg); exact hg
theorem nextS_le {K : Int} {i : Int} {f : Fl} {st : Stk} (hK : 0 ≤ K) (hf : f.kids ≤ K) (h : ∀ g ∈ st, g.2 ≤ K) : ∀ g ∈ nextS i f st, g.2 ≤ K := by
 have h2 : ∀ g ∈ (match popS st with | [] => [] | g :: r => (g.1, g.2 - 1) :: r : Stk), g.2 ≤ K := by
  intro g hg
  cases hp : popS st with
  | nil => rw [hp] at hg; cases hg
  | cons x r =>
   rw [hp] at hg
   have hsub := popS_sub st
   rw [hp] at hsub
   rcases List.mem_cons.1 hg with rfl | hg
   ·have := h x (hsub x (List.mem_cons_self ..)); simp; omega
   ·exact h g (hsub g (List.mem_cons_of_mem _ hg))
 intro g hg
 unfold nextS at hg
 dsimp only at hg
 split at hg
 ·rcases List.mem_cons.1 hg with rfl | hg
  ·exact hf
  ·exact h2 g hg
 ·exact h2 g hg
theorem stkF_le {K : Int} (hK : 0 ≤ K) : ∀ (l : List Fl) (i : Nat) (st : Stk), (∀ x ∈ l, x.kids ≤ K) → (∀ g ∈ st, g.2 ≤ K) → ∀ g ∈ stkF i st l, g.2 ≤ K
 | [], _, _, _, h => h
 | x :: l, i, st, hl, h => stkF_le hK l (i + 1) _ (fun y hy => hl y (List.mem_cons_of_mem _ hy)) (nextS_le hK (hl x (List.mem_cons_self ..)) h)
theorem parS_bd {st : Stk} {i : Int} (h : ∀ g ∈ st, 0 ≤ g.1 ∧ g.1 < i) (hi : 0 ≤ i) : -1 ≤ parS st ∧ parS st < i := by
 unfold parS
 cases hp : popS st with
 | nil => dsimp only; omega
 | cons g r =>
  have := h g (popS_sub st g (by rw [hp]; exact List.mem_cons_self ..))
  dsimp only; omega
theorem nextS_bd {st : Stk} {i : Int} {f : Fl} (h : ∀ g ∈ st, 0 ≤ g.1 ∧ g.1 < i) (hi : 0 ≤ i) : ∀ g ∈ nextS i f st, 0 ≤ g.1 ∧ g.1 < i + 1 := by
 have h2 : ∀ g ∈ (match popS st with | [] => [] | g :: r => (g.1, g.2 - 1) :: r : Stk), 0 ≤ g.1 ∧ g.1 < i + 1 := by
  intro g hg
  cases hp : popS st with
  | nil => rw [hp] at hg; cases hg
  | cons x r =>
   rw [hp] at hg
   have hsub := popS_sub st
   rw [hp] at hsub
   rcases List.mem_cons.1 hg with rfl | hg
   ·have := h x (hsub x (List.mem_cons_self ..)); exact ⟨this.1, by have := this.2; simp; omega⟩
   ·have := h g (hsub g (List.mem_cons_of_mem _ hg)); omega
 intro g hg
 unfold nextS at hg
 dsimp only at hg
 split at hg
 ·rcases List.mem_cons.1 hg with rfl | hg
  ·simp; omega
  ·exact h2 g hg
 ·exact h2 g hg
theorem parF_bd : ∀ (l : List Fl) (i : Nat) (st : Stk), (∀ g ∈ st, 0 ≤ g.1 ∧ g.1 < (i : Int)) → ∀ (j : Nat) (h : j < (parF i st l).length), -1 ≤ (parF i st l)[j] ∧ (parF i st l)[j] < ((i + j : Nat) : Int)
 | [], _, _, _, j, h => by simp [parF] at h
 | f :: l, i, st, hst, 0, h => by simpa [parF] using parS_bd hst (by omega)
 | f :: l, i, st, hst, j + 1, h => by
  have := parF_bd l (i + 1) (nextS i f st) (by have := nextS_bd (f := f) hst (by omega); intro g hg; have := this g hg; omega) j (by simpa [parF] using h)
  simp only [parF, List.getElem_cons_succ]
  omega
theorem par_bd (l : List Fl) (j : Nat) (h : j < (par l).length) : -1 ≤ (par l)[j] ∧ (par l)[j] < (j : Int) := by
 have := parF_bd l 0 [] (by simp) j h
 rw [Nat.zero_add] at this
 exact this
theorem par_length (l : List Fl) : (par l).length = l.length := parF_length l 0 []
def stc (st : Stk) : List Value := st.reverse.flatMap fun g => [.int .i64 g.1, .int .i64 g.2]
theorem stc_cons (g : Int × Int) (st : Stk) : stc (g :: st) = stc st ++ [.int .i64 g.1, .int .i64 g.2] := by simp [stc]
theorem stc_length (st : Stk) : (stc st).length = st.length * 2 := by
 induction st with
 | nil => rfl
 | cons g st ih => rw [stc_cons]; simp [ih]; omega
theorem stc_top (g : Int × Int) (st : Stk) : (stc (g :: st))[st.length * 2]? = some (.int .i64 g.1) ∧ (stc (g :: st))[st.length * 2 + 1]? = some (.int .i64 g.2) := by
 rw [stc_cons]
 have := stc_length st
 constructor
 ·rw [List.getElem?_append_right (by omega), this, Nat.sub_self]; rfl
 ·rw [List.getElem?_append_right (by omega), this, show st.length * 2 + 1 - st.length * 2 = 1 by omega]; rfl
theorem stc_get : ∀ (st : Stk) (k : Nat), k < st.length → ∃ x y, (stc st)[k * 2]? = some (Value.int .i64 x) ∧ (stc st)[k * 2 + 1]? = some (Value.int .i64 y)
 | [], _, h => absurd h (Nat.not_lt_zero _)
 | g :: st, k, h => by
  have hl := stc_length st
  by_cases hk : k < st.length
  ·obtain ⟨x, y, h1, h2⟩ := stc_get st k hk
   refine ⟨x, y, ?_, ?_⟩
   ·rw [stc_cons, List.getElem?_append_left (by omega)]; exact h1
   ·rw [stc_cons, List.getElem?_append_left (by omega)]; exact h2
  ·obtain rfl : k = st.length := by simp at h; omega
   exact ⟨_, _, stc_top g st⟩
theorem stc_set (g : Int × Int) (st : Stk) (n : Int) : (stc (g :: st)).set (st.length * 2 + 1) (.int .i64 n) = stc ((g.1, n) :: st) := by
 rw [stc_cons, stc_cons]
 have := stc_length st
 rw [List.set_append_right _ _ (by omega), this, show st.length * 2 + 1 - st.length * 2 = 1 by omega]; rfl
theorem stc_take (g : Int × Int) (st : Stk) : (stc (g :: st)).take (st.length * 2) = stc st := by
 rw [stc_cons, ← stc_length st, List.take_left]
theorem Own.upto {P : Program} {B : Nat} {w : World} {t e : TypeId} {i : TypeInfo} {size n cap : Nat} {a : Option Addr} {xs : List Value} (ht : P.underlying t = some (.slice e)) (hi : P.info? e = some i) (hsz : i.size = size) (h : Own B w e size a n cap xs) (k : IntKind) (hh : Int) (h0 : 0 ≤ hh) (h1 : hh ≤ n) :
  (∀ w', (Instr.slice t (.slice a n cap) none (some (.int k hh)) none).run P w' = .ok (.slice a hh.toNat cap) w') ∧ Own B w e size a hh.toNat cap (xs.take (hh.toNat * size)) := by
 refine ⟨fun w' => ?_, h.less (by omega)⟩
 rw [run_slice_hi ht hi hsz a n cap k hh h0 (by have := h.le; omega)]
 congr 2
 rcases h.row with h2 | ⟨g, cur, rfl, _⟩
 ·rw [if_pos h2]
 ·split
  ·rfl
  ·simp [Addr.add]
end Go.Shr
namespace Go.Proofs.Ytjbkjfefjhbolaa
open Go.RowKit Go.Shr
def ints (l : List Int) : List Value := l.map fun d => .int .i64 d
theorem ints_one (l : List Int) : ∀ u ∈ ints l, u.oneCell' = true := by
 intro u hu
 simp only [ints, List.mem_map] at hu
 obtain ⟨d, _, rfl⟩ := hu
 rfl
theorem ints_length (l : List Int) : (ints l).length = l.length := by simp [ints]
theorem ints_snoc (l : List Int) (x : Int) : ints (l ++ [x]) = ints l ++ [.int .i64 x] := by simp [ints]
theorem ints_get (l : List Int) (k : Nat) (h : k < l.length) : (ints l)[k]? = some (.int .i64 l[k]) := by simp [ints, h]
theorem ret_i {a b : Int} (h : a = b) : Ending.returned (.int .i64 a) = .returned (.int .i64 b) := by rw [h]
theorem ret_bo {a b : Bool} (h : a = b) : Ending.returned (.bool a) = .returned (.bool b) := by rw [h]
theorem info_i : (Try.prog.info? 3).map (fun i => (i.zero, i.size, i.bytes)) = some (some (.int .i64 0), 1, 8) := by kernel_rfl
theorem info_g : (Try.prog.info? 129).map (fun i => (i.zero, i.size, i.bytes)) = some (some (.agg #[.int .i64 0, .int .i64 0]), 2, 16) := by kernel_rfl
set_option maxHeartbeats 400000 in
theorem clone_i (ok : Nat → Prop) (a : Option Addr) (n cap : Nat) (xs : List Value) (w : World) (h : Sl ok w 1 a n cap xs) (hx : ∀ u ∈ xs, u.oneCell' = true) (hn : n ≤ 1000000) :
  Calls Try.prog 60 #[.slice a n cap] w fun e w' => ∃ a' cap', e = .returned (.slice a' n cap') ∧ Own w.heap.size w' 3 1 a' n cap' xs ∧ Below w.heap.size w w' := by
 have hnil := fun (w : World) => Lib.run_eql_slice_nil (P := Try.prog) w 22 3 a n cap 0 0 Try.underlying22
 obtain ⟨i0, hi, hz0, hz1, hz2⟩ := info_parts info_i
 rcases a with _ | a
 ·have h0 : n = 0 := by rcases h.row with h0 | ⟨_, _, h1, _⟩; exact h0; cases h1
  subst h0
  have hx0 : xs = [] := List.eq_nil_of_length_eq_zero (by simpa using h.len)
  subst hx0
  have H := Lib.hid h; clear h hx
  go_enter Try.func60, Try.ntmps60
  go_wp2
  go_ret
  exact ⟨none, 0, rfl, Own.nil _ _ _ _, Below.refl _ _⟩
 ·have hs := (h.alloc (.cells #[] 3)).src (P := Try.prog) (tx := 22) Try.underlying22 hx
  have HS := Lib.hid hs; clear hs h hx
  go_enter Try.func60, Try.ntmps60
  go_wp2_with (at_builtin; refine wpList_append (B := w.heap.size) rfl _ _ _ _ rfl i0 (.int .i64 0) 8 Try.underlying22 hi hz0 hz1 hz2 rfl rfl (Own.bare _ _ _ _ _) _ rfl _ _ HS.out (by simp only [maxLen]; omega) (by omega) (by simp) ?_; intro a' cap' w' hown hchg hnew)
  go_ret
  exact ⟨a', cap', by simp, by simpa using hown, ((Below.refl _ _).alloc (Nat.le_refl _) _).trans (hchg.below (by simp) (fun i hi ⟨_, h2⟩ => by omega))⟩
def PutsInt (B c : Nat) (a : Option Addr) (n : Nat) (xs : List Int) (x : Int) (w : World) (e : Ending) (w' : World) : Prop :=
 e = .returned (.bool true) ∧ ∃ a' cap', Rw w' c #[.slice a' (n + 1) cap'] 22 ∧ Own B w' 3 1 a' (n + 1) cap' (ints (xs ++ [x])) ∧ Chg (fun k => k = c ∨ (blk a k ∧ B ≤ k)) w w' ∧ (∀ k, blk a' k → blk a k ∨ w.heap.size ≤ k)
set_option maxHeartbeats 400000 in
theorem put_int (i p d : Int) (B c : Nat) (a : Option Addr) (n cap : Nat) (xs : List Int) (w : World) (hr : Rw w c #[.slice a n cap] 22) (ho : Own B w 3 1 a n cap (ints xs)) (hn : n ≤ 1000000) (hcB : c < B) (hBw : B ≤ w.heap.size) :
  Calls Try.prog 59 #[.int .i64 i, .int .i64 p, .int .i64 d, .pointer (some ⟨c, 0, none⟩)] w (PutsInt B c a n xs p w) := by
 obtain ⟨ii, hii, hz0i, hz1i, hz2i⟩ := info_parts info_i
 have q0 : w.cell? ⟨c, 0, none⟩ = some (.slice a n cap) := hr.cell 0
 have hlt := hr.lt
 have HO := Lib.hid ho; have HR := Lib.hid hr; clear ho hr
 have tok1 : True := trivial
 go_enter Try.func59, Try.ntmps59
 go_wp2_with (first | (at_builtin; have _t := tok1; clear tok1; clear _t; refine wpList_append (B := B) rfl _ _ _ _ rfl ii (.int .i64 0) 8 Try.underlying22 hii hz0i hz1i hz2i rfl rfl (HO.out.alloc _) _ rfl _ _ (src_built (e' := 3) Try.underlying22 w #[.int .i64 p] 3 1 1 rfl (by simp [Value.oneCell'])) (by simp only [maxLen]; omega) (by omega) (by first | omega | (simp; omega) | simp) ?_; intro a5 cap5 w5 ho5 hc5 hn5); (have r5 : Rw w5 c #[.slice a n cap] 22 := (HR.out.alloc _).chg hc5 (by rintro ⟨_, h, _⟩; omega)); (have q1 := r5.cell 0); (have q2 := r5.frozen); (have q3 := r5.lt); (have HO5 := Lib.hid ho5); (have HC5 := Lib.hid hc5); (have HR5 := Lib.hid r5); clear ho5 hc5 r5 q0)
 go_ret
 refine ⟨rfl, a5, cap5, HR5.out.set 0 _, ?_, ?_, ?_⟩
 ·rw [ints_snoc]; exact HO5.out.setBelow hcB _
 ·exact (((Chg.refl (fun k => k = c ∨ (blk a k ∧ B ≤ k)) w).alloc _).trans HC5.out (fun k _ h => .inr ⟨h.1, h.2.1⟩)).setCell (.inr (.inl rfl)) _
 ·intro k hk
  rcases hn5 k hk with h | h
  ·exact .inl h
  ·exact .inr (by simp at h; omega)
end Go.Proofs.Ytjbkjfefjhbolaa
namespace Go.Proofs.Ytjbkjfefjhbolaa
open Go.RowKit Go.Shr
def slLen : Value → Nat
 | .slice _ n _ => n
 | _ => 0
structure WI (W0 : World) (c : Nat) (wr : World) (aS : Option Addr) (cS : Nat) (aO : Option Addr) (j cO : Nat) (st : Stk) (ps : List Int) : Prop where
 r : Rw wr c #[.slice aO j cO] 22
 oO : Own W0.heap.size wr 3 1 aO j cO (ints ps)
 oS : Own W0.heap.size wr 129 2 aS st.length cS (stc st)
 bO : ∀ k, blk aO k → k < wr.heap.size
 bS : ∀ k, blk aS k → k < wr.heap.size
 dis : ∀ k, blk aS k → ¬ blk aO k
 nO : ∀ k, blk aO k → W0.heap.size ≤ k
 nS : ∀ k, blk aS k → W0.heap.size ≤ k
 lt : c < W0.heap.size
 chg : Chg (fun k => k = c) W0 wr
theorem blk_own {B : Nat} {w : World} {e : TypeId} {size : Nat} {a : Option Addr} {n cap : Nat} {xs : List Value} (h : Own B w e size a n cap xs) (hn : 0 < n) {k : Nat} (hk : blk a k) : B ≤ k ∧ k < w.heap.size := by
 obtain ⟨g, rfl, h1, h2, _⟩ := h.pos hn
 obtain ⟨o, s, e'⟩ := hk
 cases e'
 exact ⟨h1, h2⟩
section
variable {W0 : World} {c : Nat} {w w' : World} {aS : Option Addr} {cS : Nat} {aO : Option Addr} {j cO : Nat} {st : Stk} {ps : List Int}
theorem WI.alloc (h : WI W0 c w aS cS aO j cO st ps) (o : Obj) : WI W0 c (w.alloc o) aS cS aO j cO st ps :=
 ⟨h.r.alloc o, h.oO.alloc o, h.oS.alloc o, fun k hk => by have := h.bO k hk; simp; omega, fun k hk => by have := h.bS k hk; simp; omega, h.dis, h.nO, h.nS, h.lt, h.chg.alloc o⟩
theorem WI.pop (h : WI W0 c w aS cS aO j cO st ps) {st' : Stk} (ho : Own W0.heap.size w 129 2 aS st'.length cS (stc st')) : WI W0 c w aS cS aO j cO st' ps :=
 ⟨h.r, h.oO, ho, h.bO, h.bS, h.dis, h.nO, h.nS, h.lt, h.chg⟩
theorem WI.put (h : WI W0 c w aS cS aO j cO st ps) {x : Int} {a' : Option Addr} {cap' : Nat} (r : Rw w' c #[.slice a' (j + 1) cap'] 22) (ho : Own W0.heap.size w' 3 1 a' (j + 1) cap' (ints (ps ++ [x]))) (hc : Chg (fun k => k = c ∨ (blk aO k ∧ W0.heap.size ≤ k)) w w') (hn : ∀ k, blk a' k → blk aO k ∨ w.heap.size ≤ k) :
  WI W0 c w' aS cS a' (j + 1) cap' st (ps ++ [x]) := by
 have hsz := h.chg.size
 refine ⟨r, ho, h.oS.chg hc (fun k hk hS => ?_), fun k hk => (blk_own ho (by omega) hk).2, fun k hk => Nat.lt_of_lt_of_le (h.bS k hk) hc.size, fun k hk hk' => ?_, fun k hk => ?_, h.nS, h.lt, h.chg.trans hc (fun k hk hS => ?_)⟩
 ·rcases hS with e | ⟨h1, _⟩
  ·have := h.nS k hk; have := h.lt; omega
  ·exact h.dis k hk h1
 ·rcases hn k hk' with h1 | h1
  ·exact h.dis k hk h1
  ·have := h.bS k hk; omega
 ·exact (blk_own ho (by omega) hk).1
 ·rcases hS with e | ⟨_, h2⟩
  ·exact e
  ·omega
theorem WI.push (h : WI W0 c w aS cS aO j cO st ps) {L : Nat} (hL : st.length = L) {x y : Int} {a' : Option Addr} {cap' : Nat} (ho : Own W0.heap.size w' 129 2 a' (L + 1) cap' (stc st ++ [.int .i64 x, .int .i64 y])) (hc : Chg (fun k => blk aS k ∧ W0.heap.size ≤ k ∧ 0 < cS) w w') (hn : ∀ k, blk a' k → blk aS k ∨ w.heap.size ≤ k) :
  WI W0 c w' a' cap' aO j cO ((x, y) :: st) ps := by
 subst hL
 have hsz := h.chg.size
 refine ⟨h.r.chg hc (fun ⟨_, h2, _⟩ => ?_), h.oO.chg hc (fun k hk ⟨h1, _⟩ => h.dis k h1 hk), by rw [stc_cons]; exact ho, fun k hk => Nat.lt_of_lt_of_le (h.bO k hk) hc.size, fun k hk => (blk_own ho (by omega) hk).2, fun k hk hk' => ?_, h.nO, fun k hk => (blk_own ho (by omega) hk).1, h.lt, h.chg.trans hc (fun k hk ⟨_, h2, _⟩ => by omega)⟩
 ·have := h.lt; omega
 ·rcases hn k hk with h1 | h1
  ·exact h.dis k h1 hk'
  ·have := h.bO k hk'; omega
theorem WI.dec {g : Int × Int} {b : Nat} (h : WI W0 c w aS cS aO j cO (g :: st) ps) (ha : aS = some ⟨b, 0, none⟩) (n : Int) : WI W0 c (w.setCell ⟨b, st.length * 2 + 1, none⟩ (.int .i64 n)) aS cS aO j cO ((g.1, n) :: st) ps := by
 have hb : W0.heap.size ≤ b := h.nS b ⟨_, _, ha⟩
 have hlt := h.lt
 refine ⟨h.r.other (by simp; omega) _, h.oO.setCell (fun k hk => ?_) _, ?_, fun k hk => by have := h.bO k hk; simpa using this, fun k hk => by have := h.bS k hk; simpa using this, h.dis, h.nO, h.nS, hlt, h.chg.setCell (.inl hb) _⟩
 ·intro e; simp at e; subst e; exact h.dis _ ⟨_, _, ha⟩ hk
 ·rw [← stc_set]; exact h.oS.stored ha _ _
end
def Walked (c : Nat) (ps : List Int) (n : Nat) (W0 : World) (e : Ending) (w' : World) : Prop :=
 (∃ b, e = .returned (.bool b)) ∧ ∃ aO cO, Rw w' c #[.slice aO n cO] 22 ∧ Own W0.heap.size w' 3 1 aO n cO (ints ps) ∧ Chg (fun k => k = c) W0 w'
set_option maxHeartbeats 2000000 in
set_option maxRecDepth 100000 in
theorem walk_par (a : Option Addr) (n cap : Nat) (l : List Fl) (c : Nat) (W0 : World) (hs : Sl (fun b => b < W0.heap.size ∧ b ≠ c) W0 4 a n cap (fls l)) (hr : Rw W0 c #[.slice none 0 0] 22) (hn : n ≤ 1000) (hkid : ∀ x ∈ l, x.kids ≤ 1000) :
  Calls Try.prog 58 #[.slice a n cap, .func (.func 59) #[] #[.pointer (some ⟨c, 0, none⟩)]] W0 (Walked c (par l) n W0) := by
 obtain ⟨ig, hig, hz0g, hz1g, hz2g⟩ := info_parts info_g
 have hlen : l.length = n := by have := hs.len; rw [fls_length] at this; omega
 have hcW := hr.lt
 have HS := Lib.hid hs; have HR := Lib.hid hr; have HKID := Lib.hid hkid; clear hs hr hkid
 go_enter Try.func58, Try.ntmps58
 go_wp2_with fail
 go_loopw [4, 5, 14] (fun s4 s5 i wr => ∃ (j : Nat) (aS aO : Option Addr) (cS cO L : Nat) (st : Stk), s4 = .bool false ∧ s5 = .slice aS L cS ∧ i = .int .i64 j ∧ j ≤ n ∧ L ≤ j ∧ Hid (st.length = L) ∧ Hid (st = stkF 0 [] (l.take j)) ∧ Hid (WI W0 c wr aS cS aO j cO st (parF 0 [] (l.take j))))
  (fun _ _ i _ => n - (intOf i).toNat)
 case atStart =>
  exact ⟨0, none, none, 0, 0, 0, [], rfl, rfl, rfl, Nat.zero_le _, Nat.le_refl _, Lib.hid rfl, Lib.hid rfl, Lib.hid ⟨HR.out, Own.nil _ _ _ _, Own.nil _ _ _ _, fun k ⟨_, _, h⟩ => (by cases h), fun k ⟨_, _, h⟩ => (by cases h), fun k ⟨_, _, h⟩ => (by cases h), fun k ⟨_, _, h⟩ => (by cases h), fun k ⟨_, _, h⟩ => (by cases h), hcW, Chg.refl _ _⟩⟩
 case round =>
  obtain ⟨j, aS, aO, cS, cO, L, st, rfl, rfl, rfl, hj, hL, HL, HST, HW⟩ := hrel
  by_cases hlt : j < n
  ·obtain ⟨b, off, rfl, ⟨hb1, hb2⟩, hcc⟩ := HS.out.pos (by omega)
   obtain ⟨e0, e1, e2, e3⟩ := fls_get l j (by omega)
   have hk : ∀ {o u}, W0.cell? ⟨b, o, none⟩ = some u → wr.cell? ⟨b, o, none⟩ = some u := fun h => HW.out.chg.keep h hb2
   replace e0 := hk (hcc _ _ e0); replace e1 := hk (hcc _ _ e1); replace e2 := hk (hcc _ _ e2); replace e3 := hk (hcc _ _ e3)
   rw [← Nat.add_assoc] at e1 e2 e3
   have HX : Hid (l.take (j + 1) = l.take j ++ [l[j]]) := Lib.hid (List.take_succ_eq_append_getElem (by omega))
   have HPF : Hid (parF 0 [] (l.take (j + 1)) = parF 0 [] (l.take j) ++ [parS st]) := Lib.hid (by rw [HX.out, parF_snoc, ← HST.out])
   have HSF : Hid (stkF 0 [] (l.take (j + 1)) = nextS j l[j] st) := Lib.hid (by rw [HX.out, stkF_snoc, ← HST.out, List.length_take, show 0 + min j l.length = j by omega])
   have HLE : Hid (∀ g ∈ st, g.2 ≤ 1000) := Lib.hid (by rw [HST.out]; exact stkF_le (by decide) _ _ _ (fun x hx => HKID.out x (List.mem_of_mem_take hx)) (by simp))
   have HFK : Hid (l[j].kids ≤ 1000) := Lib.hid (HKID.out _ (List.getElem_mem (by omega)))
   generalize l[j] = f at *
   have hszW := HW.out.chg.size
   clear hcc hk
   go_wp2_with fail
   have r7 := Rw.new wr #[.string f.name, .int .i64 f.rep, .int .i64 f.kind, .int .i64 f.kids] 62
   have hb7O := HW.out.bO; have hb7S := HW.out.bS
   have hw1 := HW.out.alloc (.cells #[.string f.name, .int .i64 f.rep, .int .i64 f.kind, .int .i64 f.kids] 62)
   have hsz1 : (wr.alloc (.cells #[.string f.name, .int .i64 f.rep, .int .i64 f.kind, .int .i64 f.kids] 62)).heap.size = wr.heap.size + 1 := by simp
   generalize wr.alloc (.cells #[.string f.name, .int .i64 f.rep, .int .i64 f.kind, .int .i64 f.kids] 62) = w1 at r7 hw1 hsz1 ⊢
   generalize hb7 : wr.heap.size = b7 at r7 hszW hsz1 hb7O hb7S ⊢
   have H7O := Lib.hid hb7O; have H7S := Lib.hid hb7S; clear hb7O hb7S
   have HW1 := Lib.hid hw1; have R7 := Lib.hid r7
   clear hw1 r7 e0 e1 e2 e3 HW hb7
   go_loop [5] (fun s5 => ∃ (L' : Nat) (st' : Stk), s5 = .slice aS L' cS ∧ L' ≤ L ∧ Hid (st'.length = L') ∧ Hid (popS st' = popS st) ∧ Hid (Own W0.heap.size w1 129 2 aS L' cS (stc st'))) (fun s5 => slLen s5)
   case atStart => exact ⟨L, st, rfl, Nat.le_refl _, HL, Lib.hid rfl, Lib.hid (HL.out ▸ HW1.out.oS)⟩
   case round =>
    obtain ⟨L', st', rfl, hL', HL', HP', HO'⟩ := hrel
    rcases st' with _ | ⟨g, r⟩
    ·obtain rfl : L' = 0 := HL'.out.symm
     go_wp2_with fail
     have HPOP : Hid (popS st = []) := Lib.hid HP'.out.symm
     have HPSEQ : Hid (parF 0 [] (l.take j) ++ [(-1 : Int)] = parF 0 [] (l.take j) ++ [parS st]) := Lib.hid (by unfold parS; rw [HPOP.out])
     have HLN2 : Hid (([] : Stk).length = 0) := Lib.hid rfl
     have HW1' := Lib.hid (HW1.out.pop (st' := []) HO'.out)
     refine (put_int j (-1) 0 W0.heap.size c aO j cO (parF 0 [] (l.take j)) w1 HW1.out.r HW1.out.oO (by omega) HW1.out.lt HW1.out.chg.size).mono ?_
     rintro e w2 ⟨rfl, aO2, cO2, r2, o2, hc2, n2⟩
     have HW2 := Lib.hid (HW1'.out.put r2 o2 hc2 n2)
     clear r2 o2 n2
     have hsz2 := HW2.out.chg.size
     have R72 := Lib.hid (R7.out.chg hc2 (by rintro (h | ⟨h, _⟩); have := HW2.out.lt; omega; have := H7O.out _ h; omega))
     have d2 : w2.cell? ⟨b7, 2, none⟩ = some (.int .i64 f.kind) := R72.out.cell 2
     have d3 : w2.cell? ⟨b7, 3, none⟩ = some (.int .i64 f.kids) := R72.out.cell 3
     clear hc2
     by_cases hkd : f.kind = 0
     ·have hkb : (f.kind == 0) = true := beq_iff_eq.2 hkd
      have hkids : f.kids ≤ 1000 := HFK.out
      rw [hkd] at d2
      have HN2 : Hid (stkF 0 [] (l.take (j + 1)) = ((j : Int), f.kids) :: []) := Lib.hid (by rw [HSF.out]; unfold nextS; rw [HPOP.out, if_pos hkd])
      clear hkd hkb
      have tok1 : True := trivial
      go_wp2_with (first | (at_builtin; have _t := tok1; clear tok1; clear _t; refine wpList_append (B := W0.heap.size) rfl _ _ _ _ rfl ig (.agg #[.int .i64 0, .int .i64 0]) 16 Try.underlying127 hig hz0g hz1g hz2g rfl rfl (HW2.out.oS.alloc _) _ rfl _ _ (src_built (e' := 129) Try.underlying127 w2 #[.int .i64 (j : Int), .int .i64 f.kids] 129 1 2 rfl (by simp [Value.oneCell'])) (by simp only [maxLen]; omega) (by omega) (by first | omega | (simp; omega) | simp) ?_; intro a5 cap5 w5 ho5 hc5 hn5))
      have HW5 := Lib.hid ((HW2.out.alloc (.cells #[.int .i64 (j : Int), .int .i64 f.kids] 129)).push HLN2.out ho5 hc5 hn5)
      clear ho5 hc5 hn5
      go_roundw
      case rel => exact ⟨j + 1, a5, aO2, cap5, cO2, _, _, rfl, rfl, by go_num, by omega, by omega, Lib.hid (by rw [HN2.out, List.length_cons, HLN2.out]), Lib.hid rfl, Lib.hid (by rw [HN2.out, HPF.out]; exact HPSEQ.out ▸ HW5.out)⟩
      case measure => simp [intOf]; omega
     ·have hkb : (f.kind == 0) = false := beq_eq_false_iff_ne.2 hkd
      have HN2 : Hid (stkF 0 [] (l.take (j + 1)) = []) := Lib.hid (by rw [HSF.out]; unfold nextS; rw [HPOP.out, if_neg hkd])
      clear hkd
      go_wp2_with fail
      go_roundw
      case rel => exact ⟨j + 1, _, aO2, cS, cO2, _, _, rfl, rfl, by go_num, by omega, by omega, Lib.hid (by rw [HN2.out]; exact HLN2.out), Lib.hid rfl, Lib.hid (by rw [HN2.out, HPF.out]; exact HPSEQ.out ▸ HW2.out)⟩
      case measure => simp [intOf]; omega
    ·obtain ⟨q, rfl⟩ : ∃ q, L' = q + 1 := ⟨r.length, HL'.out.symm⟩
     have HQ : Hid (r.length = q) := Lib.hid (by have := HL'.out; simp at this; omega)
     obtain ⟨bs, rfl, hbs1, hbs2, hbc, hbf⟩ := HO'.out.pos (by omega)
     obtain ⟨t0, t1⟩ := stc_top g r
     rw [HQ.out] at t0 t1
     replace t0 := hbc _ _ t0; replace t1 := hbc _ _ t1
     have hbfz := hbf (q * 2 + 1)
     clear hbc hbf
     by_cases hg : g.2 ≤ 0
     ·have hgb : decide (g.2 ≤ 0) = true := decide_eq_true hg
      have hup := HO'.out.upto (P := Try.prog) (t := 127) Try.underlying127 hig hz1g .i64 (q : Int) (by omega) (by omega)
      obtain ⟨hrun, hown⟩ := hup
      rw [show ((q : Int)).toNat = q by omega, ← HQ.out, stc_take, HQ.out] at hown
      rw [show ((q : Int)).toNat = q by omega] at hrun
      have HOW := Lib.hid hown; clear hown
      go_wp2_with fail
      go_round
      case rel => exact ⟨q, r, rfl, by omega, HQ, Lib.hid (by rw [← HP'.out]; simp [popS, hg]), HOW⟩
      case measure => simp [slLen]
     ·have hgb : decide (g.2 ≤ 0) = false := decide_eq_false hg
      have hg2 : 0 < g.2 := by omega
      clear hg
      have HPOP : Hid (popS st = g :: r) := Lib.hid (by rw [← HP'.out]; unfold popS; rw [if_neg (by omega)])
      have hg3 : g.2 ≤ 1000 := HLE.out g (popS_sub st g (by rw [HPOP.out]; exact List.mem_cons_self ..))
      have HPSEQ : Hid (parF 0 [] (l.take j) ++ [g.1] = parF 0 [] (l.take j) ++ [parS st]) := Lib.hid (by unfold parS; rw [HPOP.out])
      have HLN2 : Hid (((g.1, g.2 - 1) :: r : Stk).length = q + 1) := Lib.hid (by simp only [List.length_cons]; rw [HQ.out])
      have HW1' := Lib.hid ((HW1.out.pop (st' := g :: r) (HL'.out.symm ▸ HO'.out)).dec rfl (g.2 - 1))
      go_wp2_with fail
      rw [HQ.out] at HW1'
      have R7 := Lib.hid (R7.out.other (p := ⟨bs, q * 2 + 1, none⟩) (by have := H7S.out bs ⟨_, _, rfl⟩; simp; omega) (.int .i64 (g.2 - 1)))
      refine (put_int j g.1 (q + 1) W0.heap.size c aO j cO (parF 0 [] (l.take j)) _ HW1'.out.r HW1'.out.oO (by omega) HW1'.out.lt HW1'.out.chg.size).mono ?_
      rintro e w2 ⟨rfl, aO2, cO2, r2, o2, hc2, n2⟩
      have HW2 := Lib.hid (HW1'.out.put r2 o2 hc2 n2)
      clear r2 o2 n2
      have hsz2 := HW2.out.chg.size
      have R72 := Lib.hid (R7.out.chg hc2 (by rintro (h | ⟨h, _⟩); have := HW2.out.lt; omega; have := H7O.out _ h; omega))
      have d2 : w2.cell? ⟨b7, 2, none⟩ = some (.int .i64 f.kind) := R72.out.cell 2
      have d3 : w2.cell? ⟨b7, 3, none⟩ = some (.int .i64 f.kids) := R72.out.cell 3
      clear hc2
      by_cases hkd : f.kind = 0
      ·have hkb : (f.kind == 0) = true := beq_iff_eq.2 hkd
       have hkids : f.kids ≤ 1000 := HFK.out
       rw [hkd] at d2
       have HN2 : Hid (stkF 0 [] (l.take (j + 1)) = ((j : Int), f.kids) :: ((g.1, g.2 - 1) :: r)) := Lib.hid (by rw [HSF.out]; unfold nextS; rw [HPOP.out, if_pos hkd])
       clear hkd hkb
       have tok1 : True := trivial
       go_wp2_with (first | (at_builtin; have _t := tok1; clear tok1; clear _t; refine wpList_append (B := W0.heap.size) rfl _ _ _ _ rfl ig (.agg #[.int .i64 0, .int .i64 0]) 16 Try.underlying127 hig hz0g hz1g hz2g rfl rfl ((HLN2.out ▸ HW2.out.oS).alloc _) _ rfl _ _ (src_built (e' := 129) Try.underlying127 w2 #[.int .i64 (j : Int), .int .i64 f.kids] 129 1 2 rfl (by simp [Value.oneCell'])) (by simp only [maxLen]; omega) (by omega) (by first | omega | (simp; omega) | simp) ?_; intro a5 cap5 w5 ho5 hc5 hn5))
       have HW5 := Lib.hid ((HW2.out.alloc (.cells #[.int .i64 (j : Int), .int .i64 f.kids] 129)).push HLN2.out ho5 hc5 hn5)
       clear ho5 hc5 hn5
       go_roundw
       case rel => exact ⟨j + 1, a5, aO2, cap5, cO2, _, _, rfl, rfl, by go_num, by omega, by omega, Lib.hid (by rw [HN2.out, List.length_cons, HLN2.out]), Lib.hid rfl, Lib.hid (by rw [HN2.out, HPF.out]; exact HPSEQ.out ▸ HW5.out)⟩
       case measure => simp [intOf]; omega
      ·have hkb : (f.kind == 0) = false := beq_eq_false_iff_ne.2 hkd
       have HN2 : Hid (stkF 0 [] (l.take (j + 1)) = ((g.1, g.2 - 1) :: r)) := Lib.hid (by rw [HSF.out]; unfold nextS; rw [HPOP.out, if_neg hkd])
       clear hkd
       go_wp2_with fail
       go_roundw
       case rel => exact ⟨j + 1, _, aO2, cS, cO2, _, _, rfl, rfl, by go_num, by omega, by omega, Lib.hid (by rw [HN2.out]; exact HLN2.out), Lib.hid rfl, Lib.hid (by rw [HN2.out, HPF.out]; exact HPSEQ.out ▸ HW2.out)⟩
       case measure => simp [intOf]; omega
  ·obtain rfl : j = n := by omega
   have HT : Hid (l.take j = l) := Lib.hid (List.take_of_length_le (by omega))
   clear hlt
   go_wp2_with fail
   go_loopw [4, 76] (fun b i wk => ∃ (k : Nat) (bb : Bool), b = .bool bb ∧ i = .int .i64 k ∧ k ≤ L ∧ Hid (WI W0 c wk aS cS aO j cO st (parF 0 [] (l.take j)))) (fun _ i _ => L - (intOf i).toNat)
   case atStart => exact ⟨0, _, rfl, rfl, Nat.zero_le _, HW⟩
   case round =>
    obtain ⟨k, bb, rfl, rfl, hk, HK⟩ := hrel
    by_cases hkl : k < L
    ·obtain ⟨x, y, hx, hy⟩ := stc_get st k (by rw [HL.out]; exact hkl)
     obtain ⟨bs, rfl, hbs1, hbs2, hbc, hbf⟩ := HK.out.oS.pos (by rw [HL.out]; omega)
     replace hx := hbc _ _ hx; replace hy := hbc _ _ hy
     clear hbc hbf
     have HK' := Lib.hid (HK.out.alloc (.cells #[.int .i64 x, .int .i64 y] 129))
     cases bb
     ·go_wp2_with fail
      go_roundw
      case rel => exact ⟨k + 1, _, rfl, by go_num, by omega, HK'⟩
      case measure => simp [intOf]; omega
     ·go_wp2_with fail
      go_roundw
      case rel => exact ⟨k + 1, _, rfl, by go_num, by omega, HK'⟩
      case measure => simp [intOf]; omega
    ·obtain rfl : k = L := by omega
     clear hkl
     go_wp2_with fail
     go_ret
     refine ⟨⟨bb, rfl⟩, aO, cO, HK.out.r, ?_, HK.out.chg⟩
     have h := HK.out.oO
     rw [HT.out] at h
     exact h
end Go.Proofs.Ytjbkjfefjhbolaa
namespace Go.Proofs.Ytjbkjfefjhbolaa
open Go.RowKit Go.Shr
theorem hmf : ∀ (fn : Fn) (first cap : Array Value) (w : World), (Instr.makeFunc fn first cap).run Try.prog w = .ok (.func fn first cap) w := fun _ _ _ _ => rfl
set_option maxHeartbeats 400000 in
theorem par_v (a : Option Addr) (n cap : Nat) (l : List Fl) (w : World) (hs : Sl (fun b => b < w.heap.size) w 4 a n cap (fls l)) (hn : n ≤ 1000) (hkid : ∀ x ∈ l, x.kids ≤ 1000) :
  Calls Try.prog 39 #[.slice a n cap] w fun e w' => ∃ a' cap', e = .returned (.slice a' n cap') ∧ Own w.heap.size w' 3 1 a' n cap' (ints (par l)) ∧ Below w.heap.size w w' := by
 have hmf' := hmf
 have hs1 : Sl (fun b => b < (w.alloc (.cells #[.slice none 0 0] 22)).heap.size ∧ b ≠ w.heap.size) (w.alloc (.cells #[.slice none 0 0] 22)) 4 a n cap (fls l) :=
  (hs.alloc _).mono (fun k _ hk => ⟨by simp; omega, by omega⟩) (by decide)
 have HS := Lib.hid hs1; have HK := Lib.hid hkid; clear hs hs1 hkid
 have HR := Lib.hid (Rw.new w #[.slice none 0 0] 22)
 go_enter Try.func39, Try.ntmps39
 go_wp2_with fail
 refine (walk_par a n cap l w.heap.size _ HS.out HR.out hn HK.out).mono ?_
 rintro e w1 ⟨⟨b, rfl⟩, aO, cO, r1, o1, c1⟩
 have q0 : w1.cell? ⟨w.heap.size, 0, none⟩ = some (.slice aO n cO) := r1.cell 0
 have hb1 : Below w.heap.size w w1 := ⟨c1.os, c1.tape, c1.output, by have := c1.size; simp at this; omega, fun k hk => (c1.block k (by simp; omega) (by omega)).trans (Below.heap_alloc w _ k hk)⟩
 have HO := Lib.hid o1.sl; have HB := Lib.hid hb1
 clear r1 o1 c1 hb1
 go_wp2_with fail
 refine (clone_i _ aO n cO _ w1 HO.out (ints_one _) (by omega)).mono ?_
 rintro e w2 ⟨a', cap', rfl, ho, hb⟩
 have HO2 := Lib.hid (ho.mono HB.out.size); have HB2 := Lib.hid (bt HB.out hb)
 clear ho hb
 go_wp2_with fail
 go_ret
 exact ⟨a', cap', rfl, HO2.out, HB2.out⟩
def kidsOf (P : List Int) (k : Int) : List Int := ((List.range P.length).filter fun i => P.getD i 0 == k).map fun (i : Nat) => (i : Int)
theorem kidsOf_snoc (P : List Int) (p k : Int) : kidsOf (P ++ [p]) k = kidsOf P k ++ if p = k then [(P.length : Int)] else [] := by
 unfold kidsOf
 rw [List.length_append, List.length_singleton, List.range_succ, List.filter_append, List.map_append]
 congr 1
 ·congr 1
  refine List.filter_congr fun i hi => ?_
  have := List.mem_range.1 hi
  simp [List.getElem?_append_left this]
 ·have e : (P ++ [p]).getD P.length 0 = p := by simp
  rw [List.filter_cons, e]
  by_cases h : p = k
  ·simp [h]
  ·simp [h]
theorem kidsOf_nil (k : Int) : kidsOf [] k = [] := rfl
theorem kidsOf_mem {P : List Int} {k : Int} {i : Int} (h : i ∈ kidsOf P k) : 0 ≤ i ∧ i < P.length ∧ P.getD i.toNat 0 = k := by
 simp only [kidsOf, List.mem_map, List.mem_filter, List.mem_range] at h
 obtain ⟨j, ⟨h1, h2⟩, rfl⟩ := h
 exact ⟨by omega, by omega, by simpa using h2⟩
theorem kidsOf_len (P : List Int) (k : Int) : (kidsOf P k).length ≤ P.length := by
 unfold kidsOf
 rw [List.length_map]
 exact Nat.le_trans (List.length_filter_le _ _) (by simp)
structure KI (B : Nat) (w : World) (bk n : Nat) (cur : Array Value) (aa : Nat → Option Addr) (cc : Nat → Nat) (K : Nat → List Int) : Prop where
 row : Rw w bk cur 22
 at' : ∀ k, k < n → cur[k]? = some (.slice (aa k) (K k).length (cc k))
 own : ∀ k, k < n → Own B w 3 1 (aa k) (K k).length (cc k) (ints (K k))
 lt : ∀ k g, k < n → blk (aa k) g → g < w.heap.size ∧ bk < g ∧ B ≤ g
 dis : ∀ k j g, k < n → j < n → k ≠ j → blk (aa k) g → ¬ blk (aa j) g
theorem KI.below {B : Nat} {w w' : World} {bk n : Nat} {cur : Array Value} {aa : Nat → Option Addr} {cc : Nat → Nat} {K : Nat → List Int} (h : KI B w bk n cur aa cc K) (hb : Below w.heap.size w w') : KI B w' bk n cur aa cc K :=
 ⟨h.row.below hb, h.at', fun k hk => (h.own k hk).below hb, fun k g hk hg => ⟨Nat.lt_of_lt_of_le (h.lt k g hk hg).1 hb.size, (h.lt k g hk hg).2⟩, h.dis⟩
theorem KI.push {B : Nat} {w w' : World} {bk n : Nat} {cur : Array Value} {aa : Nat → Option Addr} {cc : Nat → Nat} {K : Nat → List Int} (h : KI B w bk n cur aa cc K) (k : Nat) (hk : k < n) {a' : Option Addr} {c' : Nat} {x : Int} (hbk : bk < B)
  (ho : Own B w' 3 1 a' ((K k).length + 1) c' (ints (K k ++ [x]))) (hc : Chg (fun g => blk (aa k) g ∧ B ≤ g ∧ 0 < cc k) w w') (hn : ∀ g, blk a' g → blk (aa k) g ∨ w.heap.size ≤ g) :
  KI B (w'.setCell ⟨bk, k, none⟩ (.slice a' ((K k).length + 1) c')) bk n (cur.setIfInBounds k (.slice a' ((K k).length + 1) c')) (fun j => if j = k then a' else aa j) (fun j => if j = k then c' else cc j) (fun j => if j = k then K k ++ [x] else K j) := by
 have hsz := hc.size
 have hblk : ∀ g, blk a' g → B ≤ g ∧ g < w'.heap.size := fun g hg => by
  obtain ⟨g', rfl, h1, h2, _⟩ := ho.pos (by omega)
  obtain ⟨o, s, e'⟩ := hg
  cases e'
  exact ⟨h1, h2⟩
 have hks : k < cur.size := (Array.getElem?_eq_some_iff.1 (h.at' k hk)).1
 refine ⟨(h.row.chg hc (fun ⟨_, h2, _⟩ => by omega)).set k _, fun j hj => ?_, fun j hj => ?_, fun j g hj hg => ?_, fun i j g hi hj hij hg hg' => ?_⟩
 ·by_cases hjk : j = k
  ·subst hjk; simp [hks]
  ·simp only [if_neg hjk]
   rw [Array.getElem?_setIfInBounds_ne (Ne.symm hjk)]; exact h.at' j hj
 ·by_cases hjk : j = k
  ·subst hjk
   simp only [if_true, List.length_append, List.length_singleton]
   exact ho.setBelow hbk _
  ·simp only [if_neg hjk]
   exact ((h.own j hj).chg hc (fun g hg ⟨h1, _⟩ => h.dis j k g hj hk hjk hg h1)).setBelow hbk _
 ·by_cases hjk : j = k
  ·subst hjk
   simp only [if_true] at hg
   have := hblk g hg
   exact ⟨by simpa using this.2, by omega, this.1⟩
  ·simp only [if_neg hjk] at hg
   have := h.lt j g hj hg
   exact ⟨by simp; omega, this.2⟩
 ·by_cases hik : i = k
  ·subst hik
   simp only [if_true] at hg
   rw [if_neg (Ne.symm hij)] at hg'
   rcases hn g hg with h1 | h1
   ·exact h.dis i j g hi hj hij h1 hg'
   ·have := (h.lt j g hj hg').1; omega
  ·simp only [if_neg hik] at hg
   by_cases hjk : j = k
   ·subst hjk
    simp only [if_true] at hg'
    rcases hn g hg' with h1 | h1
    ·exact h.dis i j g hi hj hij hg h1
    ·have := (h.lt i g hi hg).1; omega
   ·simp only [if_neg hjk] at hg'
    exact h.dis i j g hi hj hij hg hg'
def KidsAt (w : World) (bk n : Nat) (K : Nat → List Int) : Prop := ∀ k, k < n → ∃ a c, w.cell? ⟨bk, k, none⟩ = some (.slice a (K k).length c) ∧ Sl (fun b => b < w.heap.size) w 1 a (K k).length c (ints (K k))
theorem KidsAt.below {w w' : World} {bk n : Nat} {K : Nat → List Int} (h : KidsAt w bk n K) (hb : Below w.heap.size w w') : KidsAt w' bk n K := fun k hk => by
 obtain ⟨a, c, h1, h2⟩ := h k hk
 exact ⟨a, c, cb hb h1, slb h2 hb⟩
theorem KI.kids {B : Nat} {w : World} {bk n : Nat} {cur : Array Value} {aa : Nat → Option Addr} {cc : Nat → Nat} {K : Nat → List Int} (h : KI B w bk n cur aa cc K) : KidsAt w bk n K := fun k hk =>
 ⟨aa k, cc k, (h.row.cell k).trans (h.at' k hk), (h.own k hk).sl.mono (fun b _ hb => hb.2.2) (by decide)⟩
end Go.Proofs.Ytjbkjfefjhbolaa
namespace Go.Shr
open Go.RowKit
inductive Tr where
 | mk (n : Int) (s : ByteArray) (kids : List (List Tr))
def Tr.n : Tr → Int | .mk n _ _ => n
def Tr.s : Tr → ByteArray | .mk _ s _ => s
def Tr.kids : Tr → List (List Tr) | .mk _ _ k => k
mutual
def Tr.size : Tr → Nat
 | .mk _ _ ks => 1 + sizeLL ks
def sizeLL : List (List Tr) → Nat
 | [] => 0
 | l :: r => sizeL l + sizeLL r
def sizeL : List Tr → Nat
 | [] => 0
 | t :: r => t.size + sizeL r
end
theorem sizeL_mem {t : Tr} : ∀ {l : List Tr}, t ∈ l → t.size ≤ sizeL l
 | x :: l, h => by
  rcases List.mem_cons.1 h with rfl | h
  ·simp [sizeL]
  ·have := sizeL_mem h; simp only [sizeL]; omega
theorem sizeLL_mem {x : List Tr} : ∀ {l : List (List Tr)}, x ∈ l → sizeL x ≤ sizeLL l
 | y :: l, h => by
  rcases List.mem_cons.1 h with rfl | h
  ·simp [sizeLL]
  ·have := sizeLL_mem h; simp only [sizeLL]; omega
theorem kid_size {t : Tr} {x : List Tr} {y : Tr} (hx : x ∈ t.kids) (hy : y ∈ x) : y.size < t.size := by
 obtain ⟨n, s, ks⟩ := t
 have h1 := sizeL_mem hy
 have h2 := sizeLL_mem (show x ∈ ks from hx)
 simp only [Tr.size]; omega
mutual
def TrAt (w : World) : Tr → List Value → Prop
 | .mk n s ks, cs => ∃ a m cap xs, cs = [.int .i64 n, .string s, .slice a m cap] ∧ s.size ≤ maxLen ∧ Sl (fun b => b < w.heap.size) w 1 a m cap xs ∧ KidAt w ks xs
def KidAt (w : World) : List (List Tr) → List Value → Prop
 | [], xs => xs = []
 | l :: r, xs => ∃ a m cap ys xr, xs = .slice a m cap :: xr ∧ m = l.length ∧ Sl (fun b => b < w.heap.size) w 3 a m cap ys ∧ RowAt w l ys ∧ KidAt w r xr
def RowAt (w : World) : List Tr → List Value → Prop
 | [], ys => ys = []
 | t :: r, ys => ∃ c0 c1 c2 yr, ys = c0 :: c1 :: c2 :: yr ∧ TrAt w t [c0, c1, c2] ∧ RowAt w r yr
end
mutual
theorem TrAt.below {w w' : World} (hb : Below w.heap.size w w') : ∀ (t : Tr) (cs : List Value), TrAt w t cs → TrAt w' t cs
 | .mk n s ks, cs, h => by
  simp only [TrAt] at h ⊢
  obtain ⟨a, m, cap, xs, h1, h2, h3, h4⟩ := h
  exact ⟨a, m, cap, xs, h1, h2, slb h3 hb, KidAt.below hb ks xs h4⟩
theorem KidAt.below {w w' : World} (hb : Below w.heap.size w w') : ∀ (ks : List (List Tr)) (xs : List Value), KidAt w ks xs → KidAt w' ks xs
 | [], xs, h => by simpa only [KidAt] using h
 | l :: r, xs, h => by
  simp only [KidAt] at h ⊢
  obtain ⟨a, m, cap, ys, xr, h1, h2, h3, h4, h5⟩ := h
  exact ⟨a, m, cap, ys, xr, h1, h2, slb h3 hb, RowAt.below hb l ys h4, KidAt.below hb r xr h5⟩
theorem RowAt.below {w w' : World} (hb : Below w.heap.size w w') : ∀ (l : List Tr) (ys : List Value), RowAt w l ys → RowAt w' l ys
 | [], ys, h => by simpa only [RowAt] using h
 | t :: r, ys, h => by
  simp only [RowAt] at h ⊢
  obtain ⟨c0, c1, c2, yr, h1, h2, h3⟩ := h
  exact ⟨c0, c1, c2, yr, h1, TrAt.below hb t _ h2, RowAt.below hb r yr h3⟩
end
theorem KidAt.len {w : World} : ∀ {ks : List (List Tr)} {xs : List Value}, KidAt w ks xs → xs.length = ks.length
 | [], xs, h => by simp only [KidAt] at h; subst h; rfl
 | l :: r, xs, h => by
  simp only [KidAt] at h
  obtain ⟨a, m, cap, ys, xr, rfl, _, _, _, h5⟩ := h
  simp [KidAt.len h5]
theorem RowAt.len {w : World} : ∀ {l : List Tr} {ys : List Value}, RowAt w l ys → ys.length = l.length * 3
 | [], xs, h => by simp only [RowAt] at h; subst h; rfl
 | t :: r, xs, h => by
  simp only [RowAt] at h
  obtain ⟨c0, c1, c2, yr, rfl, _, h3⟩ := h
  have := RowAt.len h3
  simp; omega
theorem KidAt.get {w : World} : ∀ {ks : List (List Tr)} {xs : List Value} (_ : KidAt w ks xs) (k : Nat) (hk : k < ks.length),
  ∃ a cap ys, xs[k]? = some (.slice a (ks[k]).length cap) ∧ Sl (fun b => b < w.heap.size) w 3 a (ks[k]).length cap ys ∧ RowAt w ks[k] ys
 | l :: r, xs, h, 0, _ => by
  simp only [KidAt] at h
  obtain ⟨a, m, cap, ys, xr, rfl, rfl, h3, h4, _⟩ := h
  exact ⟨a, cap, ys, rfl, h3, h4⟩
 | l :: r, xs, h, k + 1, hk => by
  simp only [KidAt] at h
  obtain ⟨a, m, cap, ys, xr, rfl, _, _, _, h5⟩ := h
  simpa using KidAt.get h5 k (by simpa using hk)
theorem RowAt.get {w : World} : ∀ {l : List Tr} {ys : List Value} (_ : RowAt w l ys) (k : Nat) (hk : k < l.length),
  ∃ a m cap xs, ys[k * 3]? = some (.int .i64 l[k].n) ∧ ys[k * 3 + 1]? = some (.string l[k].s) ∧ ys[k * 3 + 2]? = some (.slice a m cap) ∧ m = l[k].kids.length ∧ l[k].s.size ≤ maxLen ∧ Sl (fun b => b < w.heap.size) w 1 a m cap xs ∧ KidAt w l[k].kids xs
 | t :: r, ys, h, 0, _ => by
  simp only [RowAt] at h
  obtain ⟨c0, c1, c2, yr, rfl, h2, _⟩ := h
  obtain ⟨n, s, ks⟩ := t
  simp only [TrAt] at h2
  obtain ⟨a, m, cap, xs, hc, h3, h4, h5⟩ := h2
  simp at hc
  obtain ⟨rfl, rfl, rfl⟩ := hc
  refine ⟨a, m, cap, xs, rfl, rfl, rfl, ?_, h3, h4, h5⟩
  have := h4.len; have := h5.len
  simp only [List.getElem_cons_zero, Tr.kids]; omega
 | t :: r, ys, h, k + 1, hk => by
  simp only [RowAt] at h
  obtain ⟨c0, c1, c2, yr, rfl, _, h3⟩ := h
  rw [show (k + 1) * 3 = k * 3 + 1 + 1 + 1 by omega]
  simpa using RowAt.get h3 k (by simpa using hk)
theorem TrAt.mk' {w : World} {t : Tr} {a : Option Addr} {m cap : Nat} {xs : List Value} (hs : t.s.size ≤ maxLen) (h : Sl (fun b => b < w.heap.size) w 1 a m cap xs) (hk : KidAt w t.kids xs) : TrAt w t [.int .i64 t.n, .string t.s, .slice a m cap] := by
 obtain ⟨n, s, ks⟩ := t
 simp only [TrAt]
 exact ⟨a, m, cap, xs, rfl, hs, h, hk⟩
theorem TrAt.parts {w : World} {t : Tr} {cs : List Value} (h : TrAt w t cs) : ∃ a m cap xs, cs = [.int .i64 t.n, .string t.s, .slice a m cap] ∧ m = t.kids.length ∧ t.s.size ≤ maxLen ∧ Sl (fun b => b < w.heap.size) w 1 a m cap xs ∧ KidAt w t.kids xs := by
 obtain ⟨n, s, ks⟩ := t
 simp only [TrAt] at h
 obtain ⟨a, m, cap, xs, h1, h2, h3, h4⟩ := h
 refine ⟨a, m, cap, xs, h1, ?_, h2, h3, h4⟩
 have := h3.len; have := h4.len
 simp only [Tr.kids]; omega
def leafT (kind : Int) (t : Tr) : Int :=
 if 0 < t.kids.length ∨ (kind = 4 ∧ t.n ≠ 0) ∨ (kind ≠ 4 ∧ t.s.toList ≠ []) then 13
 else if kind = 1 then (if t.n < 0 ∨ 1 < t.n then 14 else 0)
 else if kind = 2 then (if t.n < -2147483648 ∨ 2147483647 < t.n then 14 else 0)
 else if kind = 3 then 0
 else if 100 < t.s.size then 5 else 0
def repT (rep : Int) (m : Nat) : Int := if (rep ≠ 2 ∧ 1 < m) ∨ (rep = 0 ∧ m = 0) then 13 else if 50 < m then 4 else 0
def firstE : List Int → Int
 | [] => 0
 | e :: r => if e = 0 then firstE r else e
def Fl.none : Fl := ⟨ByteArray.empty, 0, 0, 0⟩
def flAt (l : List Fl) (i : Int) : Fl := l.getD i.toNat Fl.none
mutual
def fitT (l : List Fl) (K : Int → List Int) : Tr → Int → Int
 | .mk n s ks, i =>
  if (flAt l i).kind ≠ 0 then leafT (flAt l i).kind (.mk n s ks)
  else if n ≠ 0 ∨ s.toList ≠ [] ∨ ks.length ≠ (K i).length then 13
  else fitK l K ks (K i)
def fitK (l : List Fl) (K : Int → List Int) : List (List Tr) → List Int → Int
 | [], _ => 0
 | x :: r, js => if repT (flAt l (js.headD 0)).rep x.length ≠ 0 then repT (flAt l (js.headD 0)).rep x.length else
   if fitX l K x (js.headD 0) ≠ 0 then fitX l K x (js.headD 0) else fitK l K r js.tail
def fitX (l : List Fl) (K : Int → List Int) : List Tr → Int → Int
 | [], _ => 0
 | t :: r, i => if fitT l K t i ≠ 0 then fitT l K t i else fitX l K r i
end
def fitA (l : List Fl) (K : Int → List Int) (x : List Tr) (i : Int) : Int := if repT (flAt l i).rep x.length ≠ 0 then repT (flAt l i).rep x.length else fitX l K x i
theorem fitK_cons (l : List Fl) (K : Int → List Int) (x : List Tr) (r : List (List Tr)) (js : List Int) : fitK l K (x :: r) js = if fitA l K x (js.headD 0) ≠ 0 then fitA l K x (js.headD 0) else fitK l K r js.tail := by
 simp only [fitK, fitA]
 by_cases h : repT (flAt l (js.headD 0)).rep x.length = 0
 ·simp only [h, ne_eq, not_true_eq_false, if_false]
 ·simp only [h, ne_eq, not_false_eq_true, if_true]
theorem fitT_eq (l : List Fl) (K : Int → List Int) (t : Tr) (i : Int) : fitT l K t i = if (flAt l i).kind ≠ 0 then leafT (flAt l i).kind t else if t.n ≠ 0 ∨ t.s.toList ≠ [] ∨ t.kids.length ≠ (K i).length then 13 else fitK l K t.kids (K i) := by
 obtain ⟨n, s, ks⟩ := t
 simp only [fitT, Tr.n, Tr.s, Tr.kids]
 first | rfl | (congr 1; done) | (congr 2; done) | (split <;> (try rfl) <;> (split <;> rfl))
end Go.Shr
namespace Go.Proofs.Ytjbkjfefjhbolaa
open Go.RowKit Go.Shr
theorem str_len (s : ByteArray) : s.toList.length = s.size := by rw [ByteArray.toList_eq]; simp
structure Wf (l : List Fl) : Prop where
 len : l.length ≤ 1000
 pos : 0 < l.length
 kids : ∀ x ∈ l, x.kids ≤ 1000
 kind : ∀ x ∈ l, 0 ≤ x.kind ∧ x.kind ≤ 4
def KF (l : List Fl) (i : Int) : List Int := kidsOf (par l) i
theorem fitX_drop (l : List Fl) (K : Int → List Int) (x : List Tr) (i : Int) (k : Nat) (h : k < x.length) : fitX l K (x.drop k) i = if fitT l K x[k] i ≠ 0 then fitT l K x[k] i else fitX l K (x.drop (k + 1)) i := by
 rw [List.drop_eq_getElem_cons h]; simp only [fitX]
theorem fitK_drop (l : List Fl) (K : Int → List Int) (ks : List (List Tr)) (js : List Int) (k : Nat) (h : k < ks.length) (hj : k < js.length) : fitK l K (ks.drop k) (js.drop k) = if fitA l K ks[k] js[k] ≠ 0 then fitA l K ks[k] js[k] else fitK l K (ks.drop (k + 1)) (js.drop (k + 1)) := by
 rw [List.drop_eq_getElem_cons h, List.drop_eq_getElem_cons hj, fitK_cons]; rfl
end Go.Proofs.Ytjbkjfefjhbolaa
