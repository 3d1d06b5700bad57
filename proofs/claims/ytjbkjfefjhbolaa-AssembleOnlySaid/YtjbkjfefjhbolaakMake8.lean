import Derived.Test.YtjbkjfefjhbolaakRef5
import Derived.Test.YtjbkjfefjhbolaakMkr2
import Derived.Test.YtjbkjfefjhbolaakSchP
set_option linter.unusedSimpArgs false
set_option linter.unusedVariables false
namespace Go.Proofs.Ytjbkjfefjhbolaa
open Go.RowKit Go.Shr
theorem refpar_v (a : Option Addr) (n cap : Nat) (l : List Fl) (w : World) (hs : Sl (fun b => b < w.heap.size) w 4 a n cap (fls l)) (hn : n ≤ 1000) (hkid : ∀ x ∈ l, x.kids ≤ 1000) :
  Calls Try.prog 34 #[.slice a n cap] w fun e w' => ∃ aP cP, e = .returned (.slice aP n cP) ∧ Is w.heap.size w' aP n cP (par l) ∧ Below w.heap.size w w' := by
 have HS := Lib.hid hs; have HK := Lib.hid hkid; clear hs hkid
 go_enter Try.func34, Try.ntmps34
 go_wp2_with fail
 refine (refwalk_v a n cap l w HS.out hn HK.out).mono ?_
 rintro e w1 ⟨aP, cP, aD, cD, rfl, hp, _, _, hb⟩
 have HP := Lib.hid hp; have HB := Lib.hid hb
 clear hp hb
 go_wp2_with fail
 go_ret
 exact ⟨aP, cP, rfl, HP.out, HB.out⟩
structure Sch (l : List Fl) (sh : Sh) : Prop where
 flat : l = flat sh
 good : GoodS sh
 kind : sh.kind = 0
 size : sh.size ≤ 1000
theorem Sch.kids {l : List Fl} {sh : Sh} (h : Sch l sh) : ∀ x ∈ l, x.kids ≤ 1000 := by
 have key : (∀ s : Sh, s.size ≤ 1000 → ∀ x ∈ Go.Proofs.Ytjbkjfefjhbolaa.flat s, x.kids ≤ 1000) ∧ True := by
  refine ⟨?_, trivial⟩
  have H : ∀ N, (∀ s : Sh, s.size ≤ N → N ≤ 1000 → ∀ x ∈ Go.Proofs.Ytjbkjfefjhbolaa.flat s, x.kids ≤ 1000) := by
   intro N
   induction N with
   | zero => intro s hs; cases s; simp [Sh.size] at hs
   | succ N ih =>
    intro s hs hN x hx
    obtain ⟨nm, rp, kd, ks⟩ := s
    simp only [Sh.size] at hs
    simp only [Go.Proofs.Ytjbkjfefjhbolaa.flat, List.mem_cons] at hx
    have hkl := kids_sizes ks
    rcases hx with rfl | hx
    ·dsimp only; omega
    ·have : ∀ (q : List Sh), shSizes q ≤ N → x ∈ flatL q → x.kids ≤ 1000 := by
      intro q
      induction q with
      | nil => intro _ h; simp [flatL] at h
      | cons y q ih2 =>
       intro h1 h2
       simp only [shSizes] at h1
       simp only [flatL, List.mem_append] at h2
       rcases h2 with h2 | h2
       ·exact ih y (by omega) (by omega) x h2
       ·exact ih2 (by omega) h2
     exact this ks (by omega) hx
  exact fun s hs => H 1000 s hs (Nat.le_refl _)
 rw [h.flat]
 exact key.1 sh h.size
theorem Sch.len {l : List Fl} {sh : Sh} (h : Sch l sh) : l.length = sh.size := by rw [h.flat, flat_length]
theorem Sch.ix {l : List Fl} {sh : Sh} (h : Sch l sh) : Ix l (fun v => kidsOf (par l) v) 0 sh := by rw [h.flat]; exact ix_root sh h.good h.kind
theorem make_sch (ns : List Int) : Sch (makeL ns) (makeSh ns) := ⟨makeL_flat ns, (makeSh_good ns).1, (makeSh_good ns).2.1, by rw [← flat_length, ← makeL_flat]; have := (make_len ns).2; omega⟩
end Go.Proofs.Ytjbkjfefjhbolaa
namespace Go.Proofs.Ytjbkjfefjhbolaa
open Go.RowKit Go.Shr
mutual
theorem ix_all {l : List Fl} {K : Int → List Int} : ∀ (s : Sh) (i : Nat), Ix l K i s → ∀ (j : Nat), i ≤ j → j < i + s.size → ∃ f, l[j]? = some f ∧ f.kids = ((K j).length : Int)
 | .mk nm r k ks, i, h, j, h1, h2 => by
  simp only [Ix] at h
  simp only [Sh.size] at h2
  by_cases hj : j = i
  ·subst hj
   exact ⟨_, h.1, by rw [h.2.1, offs_len]⟩
  ·exact ixL_all ks (i + 1) h.2.2 j (by omega) (by omega)
theorem ixL_all {l : List Fl} {K : Int → List Int} : ∀ (ks : List Sh) (i : Nat), IxL l K i ks → ∀ (j : Nat), i ≤ j → j < i + shSizes ks → ∃ f, l[j]? = some f ∧ f.kids = ((K j).length : Int)
 | [], i, _, j, h1, h2 => by simp only [shSizes] at h2; omega
 | s :: r, i, h, j, h1, h2 => by
  simp only [IxL] at h
  simp only [shSizes] at h2
  by_cases hj : j < i + s.size
  ·exact ix_all s i h.1 j h1 hj
  ·exact ixL_all r (i + s.size) h.2 j (by omega) (by omega)
end
mutual
theorem flat_bd : ∀ (s : Sh), GoodS s → ∀ x ∈ flat s, 0 ≤ x.rep ∧ x.rep ≤ 2 ∧ 0 ≤ x.kind ∧ x.kind ≤ 4
 | .mk nm r k ks, h, x, hx => by
  simp only [GoodS] at h
  simp only [flat, List.mem_cons] at hx
  rcases hx with rfl | hx
  ·exact ⟨h.1, h.2.1, h.2.2.1, h.2.2.2.1⟩
  ·exact flatL_bd ks h.2.2.2.2.2.2 x hx
theorem flatL_bd : ∀ (ks : List Sh), GoodL ks → ∀ x ∈ flatL ks, 0 ≤ x.rep ∧ x.rep ≤ 2 ∧ 0 ≤ x.kind ∧ x.kind ≤ 4
 | [], _, x, hx => by simp [flatL] at hx
 | s :: r, h, x, hx => by
  simp only [GoodL] at h
  simp only [flatL, List.mem_append] at hx
  rcases hx with hx | hx
  ·exact flat_bd s h.1 x hx
  ·exact flatL_bd r h.2 x hx
end
theorem shsize_pos' (s : Sh) : 0 < s.size := by cases s; simp only [Sh.size]; omega
theorem Sch.wf {l : List Fl} {sh : Sh} (h : Sch l sh) : Wf l :=
 ⟨by rw [h.len]; exact h.size, by rw [h.len]; exact shsize_pos' sh, h.kids, fun x hx => by rw [h.flat] at hx; have := flat_bd sh h.good x hx; omega⟩
theorem Sch.goodK {l : List Fl} {sh : Sh} (h : Sch l sh) (i : Nat) (hi : i < l.length) (_ : l[i].kind = 0) : l[i].kids = ((KF l i).length : Int) := by
 obtain ⟨f, h1, h2⟩ := ix_all sh 0 h.ix i (Nat.zero_le _) (by rw [Nat.zero_add, ← h.len]; exact hi)
 rw [List.getElem?_eq_getElem hi] at h1
 rw [Option.some.inj h1]; exact h2
end Go.Proofs.Ytjbkjfefjhbolaa
namespace Go.Shr
def chain (P : List Int) (i : Nat) : List Nat :=
 if h : 0 ≤ P.getD i (-1) ∧ (P.getD i (-1)).toNat < i then i :: chain P (P.getD i (-1)).toNat else [i]
termination_by i
decreasing_by exact h.2
def chainI (P : List Int) (k : Int) : List Nat := if k < 0 then [] else chain P k.toNat
theorem chainI_nat (P : List Int) (k : Nat) : chainI P (k : Int) = chain P k := by unfold chainI; rw [if_neg (by omega)]; simp
theorem chainI_neg (P : List Int) {k : Int} (h : k < 0) : chainI P k = [] := by unfold chainI; rw [if_pos h]
theorem chain_eq {P : List Int} (hb : ∀ (j : Nat) (h : j < P.length), -1 ≤ P[j] ∧ P[j] < (j : Int)) {i : Nat} (hi : i < P.length) : chain P i = i :: chainI P P[i] := by
 have h1 := hb i hi
 have e : P.getD i (-1) = P[i] := by simp [List.getD, hi]
 rw [chain, e]
 unfold chainI
 by_cases h : P[i] < 0
 ·rw [dif_neg (by omega), if_pos h]
 ·rw [dif_pos ⟨by omega, by omega⟩, if_neg h]
theorem chain_le (P : List Int) : ∀ (i x : Nat), x ∈ chain P i → x ≤ i := by
 intro i
 induction i using Nat.strongRecOn with
 | _ i ih =>
  intro x hx
  rw [chain] at hx
  split at hx
  ·rename_i h
   rcases List.mem_cons.1 hx with rfl | hx
   ·exact Nat.le_refl _
   ·have := ih _ h.2 x hx; omega
  ·simp at hx; omega
theorem chain_self (P : List Int) (i : Nat) : i ∈ chain P i := by rw [chain]; split <;> simp
theorem chain_sub (P : List Int) (a : Nat) : ∀ (i : Nat), a ∈ chain P i → ∃ A, chain P i = A ++ chain P a ∧ ∀ x ∈ A, a < x := by
 intro i
 induction i using Nat.strongRecOn with
 | _ i ih =>
  intro ha
  by_cases hai : a = i
  ·subst hai; exact ⟨[], rfl, by simp⟩
  ·have hlt := chain_le P i a ha
   rw [chain] at ha
   split at ha
   ·rename_i h
    rcases List.mem_cons.1 ha with rfl | ha
    ·exact absurd rfl hai
    ·obtain ⟨A, e, hA⟩ := ih _ h.2 ha
     refine ⟨i :: A, ?_, ?_⟩
     ·rw [chain, dif_pos h, e]; rfl
     ·intro x hx
      rcases List.mem_cons.1 hx with rfl | hx
      ·omega
      ·exact hA x hx
   ·simp at ha; exact absurd ha hai
def inter : List UInt8 → List UInt8
 | [] => []
 | [x] => [x]
 | x :: y :: r => x :: 46 :: inter (y :: r)
theorem inter_cons (x : UInt8) {l : List UInt8} (h : l ≠ []) : inter (x :: l) = x :: 46 :: inter l := by
 cases l with
 | nil => exact absurd rfl h
 | cons y r => rfl
theorem inter_len : ∀ (l : List UInt8), l ≠ [] → (inter l).length + 1 = 2 * l.length
 | [], h => absurd rfl h
 | [x], _ => rfl
 | x :: y :: r, _ => by
  have := inter_len (y :: r) (by simp)
  simp only [inter, List.length_cons] at *; omega
theorem inter_app : ∀ (a c : List UInt8), a ≠ [] → c ≠ [] → inter (a ++ c) = inter a ++ 46 :: inter c
 | [], c, h, _ => absurd rfl h
 | [x], c, _, hc => by rw [List.singleton_append, inter_cons x hc]; rfl
 | x :: y :: r, c, _, hc => by
  have := inter_app (y :: r) c (by simp) hc
  simp only [List.cons_append] at this ⊢
  rw [inter, this, inter]; simp
theorem inter_inj : ∀ (a b : List UInt8), inter a = inter b → a = b
 | [], [], _ => rfl
 | [], [x], h => by simp [inter] at h
 | [], x :: y :: r, h => by simp [inter] at h
 | [x], [], h => by simp [inter] at h
 | x :: y :: r, [], h => by simp [inter] at h
 | [x], [z], h => by simpa [inter] using h
 | [x], z :: w :: q, h => by simp [inter] at h
 | x :: y :: r, [z], h => by simp [inter] at h
 | x :: y :: r, z :: w :: q, h => by
  simp only [inter, List.cons.injEq, true_and] at h
  have := inter_inj (y :: r) (w :: q) h.2
  rw [h.1, this]
def insideB (own path : List UInt8) : Bool := if path.length < own.length then (own.getD path.length 0 == 46) && (own.take path.length == path) else own == path
theorem inside_inter {a b : List UInt8} (ha : a ≠ []) (hb : b ≠ []) : insideB (inter a) (inter b) = true ↔ b <+: a := by
 have la := inter_len a ha
 have lb := inter_len b hb
 unfold insideB
 by_cases hl : (inter b).length < (inter a).length
 ·rw [if_pos hl]
  have hk : b.length < a.length := by omega
  have ht : (a.take b.length) ≠ [] := by
   intro h
   have := congrArg List.length h
   have hbp : 0 < b.length := by cases b with | nil => exact absurd rfl hb | cons _ _ => simp
   rw [List.length_take, List.length_nil] at this; omega
  have hd : (a.drop b.length) ≠ [] := by
   intro h
   have := congrArg List.length h
   simp at this; omega
  have e := inter_app (a.take b.length) (a.drop b.length) ht hd
  rw [List.take_append_drop] at e
  have lt := inter_len _ ht
  have htl : (a.take b.length).length = b.length := by rw [List.length_take]; omega
  rw [htl] at lt
  have hlen : (inter (a.take b.length)).length = (inter b).length := by omega
  have e1 : (inter a).getD (inter b).length 0 = 46 := by
   rw [e, ← hlen]; simp [List.getD]
  have e2 : (inter a).take (inter b).length = inter (a.take b.length) := by
   rw [e, ← hlen, List.take_left]
  rw [e1, e2]
  simp only [beq_self_eq_true, Bool.true_and, beq_iff_eq]
  constructor
  ·intro h
   have := inter_inj _ _ h
   rw [← this]; exact List.take_prefix _ _
  ·intro h
   rw [List.prefix_iff_eq_take] at h
   rw [← h]
 ·rw [if_neg hl]
  simp only [beq_iff_eq]
  constructor
  ·intro h; rw [inter_inj _ _ h]; exact List.prefix_refl _
  ·intro h
   have hlen := h.length_le
   have : b = a := h.eq_of_length (by omega)
   rw [this]
end Go.Shr
namespace Go.Shr
def up (P : List Int) (i : Nat) : List Nat := (chain P i).filter (fun x => decide (0 < x))
def upI (P : List Int) (k : Int) : List Nat := if k ≤ 0 then [] else up P k.toNat
theorem upI_le (P : List Int) {k : Int} (h : k ≤ 0) : upI P k = [] := by unfold upI; rw [if_pos h]
theorem upI_nat (P : List Int) {k : Nat} (h : 0 < k) : upI P (k : Int) = up P k := by unfold upI; rw [if_neg (by omega)]; simp
theorem chain_zero (P : List Int) : chain P 0 = [0] := by rw [chain, dif_neg (by omega)]
theorem up_eq {P : List Int} (hb : ∀ (j : Nat) (h : j < P.length), -1 ≤ P[j] ∧ P[j] < (j : Int)) {i : Nat} (hi : i < P.length) (h0 : 0 < i) : up P i = i :: upI P P[i] := by
 unfold up
 rw [chain_eq hb hi, List.filter_cons, if_pos (by simpa using h0)]
 congr 1
 by_cases h1 : P[i] < 0
 ·rw [chainI_neg P h1, upI_le P (by omega)]; rfl
 ·obtain ⟨k, hk⟩ : ∃ k : Nat, P[i] = (k : Int) := ⟨P[i].toNat, by omega⟩
  rw [hk, chainI_nat]
  by_cases h2 : k = 0
  ·subst h2; rw [chain_zero, upI_le P (by omega)]; rfl
  ·rw [upI_nat P (by omega)]; rfl
theorem up_mem {P : List Int} {i x : Nat} : x ∈ up P i ↔ x ∈ chain P i ∧ 0 < x := by unfold up; simp
def joinS (nm : Nat → ByteArray) : List Nat → ByteArray → ByteArray
 | [], out => out
 | k :: r, out => joinS nm r (nm k ++ ⟨#[46]⟩ ++ out)
theorem joinS_inter {nm : Nat → ByteArray} {b : Nat → UInt8} : ∀ (c : List Nat) (out : ByteArray) (L : List UInt8), (∀ x ∈ c, (nm x).data.toList = [b x]) → L ≠ [] → out.data.toList = inter L → (joinS nm c out).data.toList = inter ((c.map b).reverse ++ L)
 | [], out, L, _, _, h => by simpa [joinS] using h
 | k :: r, out, L, hn, hL, h => by
  have h1 := hn k List.mem_cons_self
  rw [joinS, joinS_inter r _ (b k :: L) (fun x hx => hn x (List.mem_cons_of_mem _ hx)) (by simp) (by
   rw [inter_cons _ hL]
   simp [ByteArray.data_append, h1, h])]
  simp
end Go.Shr
namespace Go.Proofs.Ytjbkjfefjhbolaa
open Go.RowKit Go.Shr
def let1 (s : ByteArray) : UInt8 := s.data.toList.headD 0
mutual
def waysS (pre : List UInt8) : Sh → List (List UInt8)
 | .mk _ _ _ ks => pre :: waysL pre ks
def waysL (pre : List UInt8) : List Sh → List (List UInt8)
 | [] => []
 | s :: r => waysS (pre ++ [let1 s.name]) s ++ waysL pre r
end
mutual
theorem waysS_len : ∀ (s : Sh) (pre : List UInt8), (waysS pre s).length = s.size
 | .mk _ _ _ ks, pre => by simp only [waysS, List.length_cons, Sh.size, waysL_len ks]; omega
theorem waysL_len : ∀ (ks : List Sh) (pre : List UInt8), (waysL pre ks).length = shSizes ks
 | [], _ => rfl
 | s :: r, pre => by simp only [waysL, List.length_append, shSizes, waysS_len s, waysL_len r]
end
theorem waysL_par : ∀ (ks : List Sh) (g : Int) (i : Nat) (pre : List UInt8) (k : Nat) (x : List UInt8) (p : Int) (f : Fl), (waysL pre ks)[k]? = some x → (parsL g i ks)[k]? = some p → (flatL ks)[k]? = some f →
  (p = g ∧ x = pre ++ [let1 f.name]) ∨ (∃ q : Nat, p = ((i + q : Nat) : Int) ∧ q < k ∧ ∃ y, (waysL pre ks)[q]? = some y ∧ x = y ++ [let1 f.name])
 | [], _, _, _, _, _, _, _, h, _, _ => by simp [waysL] at h
 | .mk nm rp kd qs :: r, g, i, pre, 0, x, p, f, h1, h2, h3 => by
  simp [waysL, waysS, Sh.name] at h1
  simp [parsL, parsS] at h2
  simp [flatL, flat] at h3
  subst h3
  exact .inl ⟨h2.symm, h1.symm⟩
 | .mk nm rp kd qs :: r, g, i, pre, k + 1, x, p, f, h1, h2, h3 => by
  simp only [waysL, waysS, Sh.name, List.cons_append, List.getElem?_cons_succ] at h1
  simp only [parsL, parsS, List.cons_append, List.getElem?_cons_succ] at h2
  simp only [flatL, flat, List.cons_append, List.getElem?_cons_succ] at h3
  by_cases hk : k < shSizes qs
  ·rw [List.getElem?_append_left (by rw [waysL_len]; exact hk)] at h1
   rw [List.getElem?_append_left (by rw [parsL_length]; exact hk)] at h2
   rw [List.getElem?_append_left (by rw [flatL_length]; exact hk)] at h3
   rcases waysL_par qs i (i + 1) (pre ++ [let1 nm]) k x p f h1 h2 h3 with ⟨e1, e2⟩ | ⟨q, e1, e2, y, e3, e4⟩
   ·exact .inr ⟨0, by simpa using e1, by omega, _, rfl, e2⟩
   ·refine .inr ⟨q + 1, by rw [e1]; congr 1; omega, by omega, y, ?_, e4⟩
    simp only [waysL, waysS, Sh.name, List.cons_append, List.getElem?_cons_succ]
    rw [List.getElem?_append_left (by rw [waysL_len]; omega)]
    exact e3
  ·rw [List.getElem?_append_right (by rw [waysL_len]; omega), waysL_len] at h1
   rw [List.getElem?_append_right (by rw [parsL_length]; omega), parsL_length] at h2
   rw [List.getElem?_append_right (by rw [flatL_length]; omega), flatL_length] at h3
   rcases waysL_par r g (i + (Sh.mk nm rp kd qs).size) pre (k - shSizes qs) x p f h1 h2 h3 with e | ⟨q, e1, e2, y, e3, e4⟩
   ·exact .inl e
   ·refine .inr ⟨shSizes qs + 1 + q, by rw [e1]; simp only [Sh.size]; congr 1; omega, by omega, y, ?_, e4⟩
    rw [show shSizes qs + 1 + q = (shSizes qs + q) + 1 by omega]
    simp only [waysL, waysS, Sh.name, List.cons_append, List.getElem?_cons_succ]
    rw [List.getElem?_append_right (by rw [waysL_len]; omega), waysL_len, show shSizes qs + q - shSizes qs = q by omega]
    exact e3
termination_by ks => shSizes ks
decreasing_by
 ·simp only [shSizes, Sh.size]; omega
 ·simp only [shSizes, Sh.size]; omega
structure Wy (l : List Fl) (W : Nat → List UInt8) : Prop where
 pos : 0 < l.length
 len : l.length ≤ 20
 name : ∀ (i : Nat) (h : i < l.length), ∃ c : UInt8, l[i].name.data.toList = [c] ∧ c.toNat < 128 ∧ c ≠ 46
 root : W 0 = []
 step : ∀ (i : Nat) (h : i < l.length), 0 < i → ∃ k : Nat, (par l)[i]? = some (k : Int) ∧ k < i ∧ W i = W k ++ [let1 l[i].name]
 inj : ∀ i j, i < l.length → j < l.length → W i = W j → i = j
def wayAt (sh : Sh) (i : Nat) : List UInt8 := (waysS [] sh).getD i []
theorem Wy.of {l : List Fl} {sh : Sh} (h : Sch l sh) (hs : l.length ≤ 20) (hn : ∀ f ∈ l, ∃ c : UInt8, f.name.data.toList = [c] ∧ c.toNat < 128 ∧ c ≠ 46) (hd : (waysS [] sh).Nodup) : Wy l (wayAt sh) := by
 have hl := h.len
 have hwl := waysS_len sh []
 refine ⟨by rw [hl]; exact shsize_pos' sh, hs, fun i hi => hn _ (List.getElem_mem hi), ?_, fun i hi h0 => ?_, fun i j hi hj e => ?_⟩
 ·obtain ⟨nm, rp, kd, ks⟩ := sh; rfl
 ·obtain ⟨k, rfl⟩ : ∃ k, i = k + 1 := ⟨i - 1, by omega⟩
  have hp := par_root sh h.good h.kind
  rw [← h.flat] at hp
  rw [hp]
  have hf : l[k + 1]? = some l[k + 1] := List.getElem?_eq_getElem hi
  obtain ⟨f, hff⟩ : ∃ f, f = l[k + 1] := ⟨_, rfl⟩
  rw [← hff] at hf
  rw [← hff, ]
  rw [h.flat] at hf
  obtain ⟨nm, rp, kd, ks⟩ := sh
  have hk : k < shSizes ks := by rw [hl] at hi; simp only [Sh.size] at hi; omega
  simp only [flat, List.getElem?_cons_succ] at hf
  have e2 : (parsL ((0 : Nat) : Int) 1 ks)[k]? = some ((parsL ((0 : Nat) : Int) 1 ks)[k]'(by rw [parsL_length]; exact hk)) := List.getElem?_eq_getElem _
  have e1 : (waysL [] ks)[k]? = some ((waysL [] ks)[k]'(by rw [waysL_len]; exact hk)) := List.getElem?_eq_getElem _
  have hw : wayAt (.mk nm rp kd ks) (k + 1) = (waysL [] ks)[k]'(by rw [waysL_len]; exact hk) := by
   simp [wayAt, waysS, List.getD, e1]
  rw [hw]
  simp only [parsS, List.getElem?_cons_succ, Nat.zero_add]
  rcases waysL_par ks _ 1 [] k _ _ f e1 e2 hf with ⟨a1, a2⟩ | ⟨q, a1, a2, y, a3, a4⟩
  ·exact ⟨0, by rw [e2, a1], by omega, by rw [a2]; rfl⟩
  ·refine ⟨1 + q, by rw [e2, a1], by omega, ?_⟩
   rw [a4]
   simp [wayAt, waysS, List.getD, Nat.add_comm 1 q, a3]
 ·have a1 : (waysS [] sh)[i]? = some (wayAt sh i) := by
   unfold wayAt; rw [List.getD_eq_getElem?_getD, List.getElem?_eq_getElem (by omega)]; rfl
  have a2 : (waysS [] sh)[j]? = some (wayAt sh j) := by
   unfold wayAt; rw [List.getD_eq_getElem?_getD, List.getElem?_eq_getElem (by omega)]; rfl
  rw [e, ← a2] at a1
  exact (List.getElem?_inj (by omega) hd).1 a1
theorem getElem?_par {l : List Fl} {i : Nat} {k : Int} (h : (par l)[i]? = some k) : ∃ hi : i < (par l).length, (par l)[i] = k := List.getElem?_eq_some_iff.1 h
theorem Wy.chain {l : List Fl} {W : Nat → List UInt8} (h : Wy l W) : ∀ (i : Nat), i < l.length → ∀ j, j < l.length → (j ∈ chain (par l) i ↔ W j <+: W i) := by
 intro i
 induction i using Nat.strongRecOn with
 | _ i ih =>
  intro hi j hj
  by_cases h0 : i = 0
  ·subst h0
   rw [chain_zero, h.root, List.prefix_nil]
   constructor
   ·intro e
    obtain rfl : j = 0 := by simpa using e
    exact h.root
   ·intro e
    rw [← h.root] at e
    simp [h.inj j 0 hj hi e]
  ·obtain ⟨k, hk, hki, hw⟩ := h.step i hi (by omega)
   obtain ⟨hpl, hpe⟩ := getElem?_par hk
   rw [chain_eq (fun j hj => par_bd l j hj) hpl, hpe, chainI_nat, hw, List.mem_cons, ih k hki (by omega) j hj, List.prefix_concat_iff]
   constructor
   ·rintro (e | e)
    ·subst e; exact .inl hw
    ·exact .inr e
   ·rintro (e | e)
    ·exact .inl (h.inj j i hj hi (e.trans hw.symm))
    ·exact .inr e
theorem Wy.upI {l : List Fl} {W : Nat → List UInt8} (h : Wy l W) : ∀ (i : Nat), i < l.length → W i = ((upI (par l) (i : Int)).map (fun k => let1 (l.getD k Fl.none).name)).reverse := by
 intro i
 induction i using Nat.strongRecOn with
 | _ i ih =>
  intro hi
  by_cases h0 : i = 0
  ·subst h0
   rw [h.root, upI_le _ (by omega)]; rfl
  ·obtain ⟨k, hk, hki, hw⟩ := h.step i hi (by omega)
   obtain ⟨hpl, hpe⟩ := getElem?_par hk
   rw [upI_nat _ (by omega), up_eq (fun j hj => par_bd l j hj) hpl (by omega), hpe, hw, ih k hki (by omega)]
   simp [hi]
def ownS (l : List Fl) (i : Nat) : ByteArray := joinS (fun k => (l.getD k Fl.none).name) (upI (par l) ((par l).getD i (-1))) (l.getD i Fl.none).name
theorem Wy.own {l : List Fl} {W : Nat → List UInt8} (h : Wy l W) {i : Nat} (h0 : 0 < i) (hi : i < l.length) : (ownS l i).data.toList = inter (W i) := by
 obtain ⟨k, hk, hki, hw⟩ := h.step i hi h0
 have e : (par l).getD i (-1) = (k : Int) := by rw [List.getD_eq_getElem?_getD, hk]; rfl
 have hb : ∀ x, x < l.length → (l.getD x Fl.none).name.data.toList = [let1 (l.getD x Fl.none).name] := by
  intro x hx
  obtain ⟨c, h1, _, _⟩ := h.name x hx
  have : l.getD x Fl.none = l[x] := by simp [List.getD, hx]
  rw [this, h1, let1, h1]; rfl
 unfold ownS
 rw [e, joinS_inter (b := fun k => let1 (l.getD k Fl.none).name) _ _ [let1 (l.getD i Fl.none).name] (fun x hx => hb x ?_) (by simp) (by rw [hb i hi]; rfl), hw, h.upI k (by omega)]
 ·simp [hi]
 ·unfold Go.Shr.upI at hx
  split at hx
  ·cases hx
  ·have := chain_le _ _ _ (up_mem.1 hx).1
   simp at this; omega
theorem Wy.ne {l : List Fl} {W : Nat → List UInt8} (h : Wy l W) {i : Nat} (h0 : 0 < i) (hi : i < l.length) : W i ≠ [] := by
 obtain ⟨k, _, _, hw⟩ := h.step i hi h0
 rw [hw]; simp
end Go.Proofs.Ytjbkjfefjhbolaa
