import Derived.Test.YtjbkjfefjhbolaakRef5
import Derived.Test.YtjbkjfefjhbolaakMkr2
set_option linter.all false
open List renaming getElem?_cons_succ → zLP, getElem?_eq_getElem → zLQ, getElem?_append_right → zLR, getElem?_append_left → zLS, cons_append → zLT, mem_cons → zLU, getD_eq_getElem?_getD → zLV, getD → zLY
open Nat renaming le_refl → zLW, strongRecOn → zLX
namespace Go.Proofs.Ytjbkjfefjhbolaa
open Go.RowKit Go.Shr
theorem zBu (a : Option Addr) (n cap : Nat) (l : List Fl) (w : World) (hs : Sl (fun b => b < w.heap.size) w 4 a n cap (fls l)) (hn : n ≤ 1000) (hkid : ∀ x ∈ l, x.kids ≤ 1000) :
  Calls Try.prog 34 #[.slice a n cap] w fun e w' => ∃ aP cP, e = .returned (.slice aP n cP) ∧ Is w.heap.size w' aP n cP (par l) ∧ Below w.heap.size w w' := by
 have HS := zH hs; have HK := zH hkid; clear hs hkid
 go_enter Try.func34, Try.ntmps34
 go_wp2_with fail
 refine (zHY a n cap l w HS.out hn HK.out).mono ?_
 rintro e w1 ⟨aP, cP, aD, cD, rfl, hp, _, _, hb⟩
 have HP := zH hp; have HB := zH hb
 clear hp hb
 go_wp2_with fail
 go_ret
 exact ⟨aP, cP, rfl, HP.out, HB.out⟩
theorem zHa {c : MC} {l : List Fl} {P ns : List Int} (hP : P.length = l.length) (hPb : ∀ (j : Nat) (hj : j < P.length), -1 ≤ P[j] ∧ P[j] < (j : Int)) (hl : l.length ≤ 1000) (hns : ∀ z ∈ ns, (Lit.int .i64 z).wf = true) :
  ∀ (N : Nat) (sh : Sh), sh.size ≤ N → N ≤ 1000 → zIu c l P ns sh
 | 0, .mk _ _ _ _, h, _ => by simp [Sh.size] at h
 | N + 1, .mk nm rp kd ks, h, hN => by
  by_cases hk : kd = 0
  ·subst hk
   simp only [Sh.size] at h
   have hkl := qP ks
   refine zHK hP hPb hl hns nm rp ks (by omega) (fun s hs => zHa hP hPb hl hns N s ?_ (by omega))
   have : ∀ (q : List Sh), s ∈ q → s.size ≤ zC q := by
    intro q
    induction q with
    | nil => intro h; cases h
    | cons x q ih =>
     intro h
     rcases zLU.1 h with rfl | h
     ·simp [zC]
     ·have := ih h; simp only [zC]; omega
   have := this ks hs
   omega
  ·exact zGs hns _ hk
structure Sch (l : List Fl) (sh : Sh) : Prop where
 flat : l = flat sh
 good : zR sh
 kind : sh.kind = 0
 size : sh.size ≤ 1000
theorem Sch.kids {l : List Fl} {sh : Sh} (h : Sch l sh) : ∀ x ∈ l, x.kids ≤ 1000 := by
 have key : (∀ s : Sh, s.size ≤ 1000 → ∀ x ∈ Go.Proofs.Ytjbkjfefjhbolaa.flat s, x.kids ≤ 1000) ∧ True := by
  refine ⟨?_, trivial⟩
  have H : ∀ N, (∀ s : Sh, s.size ≤ N → N ≤ 1000 → ∀ x ∈ Go.Proofs.Ytjbkjfefjhbolaa.flat s, x.kids ≤ 1000) := by
   intro N
   induction N with
   | zero => intro s hs; cases s; simp [Sh.size] at hs
   | succ N ih =>
    intro s hs hN x hx
    obtain ⟨nm, rp, kd, ks⟩ := s
    simp only [Sh.size] at hs
    simp only [Go.Proofs.Ytjbkjfefjhbolaa.flat, zLU] at hx
    have hkl := qP ks
    rcases hx with rfl | hx
    ·dsimp only; omega
    ·have : ∀ (q : List Sh), zC q ≤ N → x ∈ yR q → x.kids ≤ 1000 := by
      intro q
      induction q with
      | nil => intro _ h; simp [yR] at h
      | cons y q ih2 =>
       intro h1 h2
       simp only [zC] at h1
       simp only [yR, List.mem_append] at h2
       rcases h2 with h2 | h2
       ·exact ih y (by omega) (by omega) x h2
       ·exact ih2 (by omega) h2
     exact this ks (by omega) hx
  exact fun s hs => H 1000 s hs (zLW _)
 rw [h.flat]
 exact key.1 sh h.size
theorem Sch.len {l : List Fl} {sh : Sh} (h : Sch l sh) : l.length = sh.size := by rw [h.flat, xX]
theorem Sch.ix {l : List Fl} {sh : Sh} (h : Sch l sh) : Ix l (fun v => zK (par l) v) 0 sh := by rw [h.flat]; exact zJ7 sh h.good h.kind
theorem zCf (ns : List Int) : Sch (qT ns) (jQ ns) := ⟨zBY ns, (zAy ns).1, (zAy ns).2.1, by rw [← xX, ← zBY]; have := (zDN ns).2; omega⟩
def zLA (t : Tr) (w : World) (e : Ending) (w' : World) : Prop :=
 ∃ a m cap, e = .returned (.agg #[.int .i64 t.n, .string t.s, .slice a m cap]) ∧ TrG (fun b => w.heap.size ≤ b) w' t [.int .i64 t.n, .string t.s, .slice a m cap] ∧ Below w.heap.size w w'
set_option maxHeartbeats 1000000 in
theorem zLr (sa : Option Addr) (scap : Nat) (l : List Fl) (sh : Sh) (na : Option Addr) (nn ncap : Nat) (ns : List Int) (w : World) (hS : Sch l sh) (hs : Sl (fun b => b < w.heap.size) w 4 sa l.length scap (fls l)) (hn : Sl (fun b => b < w.heap.size) w 1 na nn ncap (zQ ns)) (hns : ∀ z ∈ ns, (Lit.int .i64 z).wf = true) :
  Calls Try.prog 23 #[.slice sa l.length scap, .slice na nn ncap] w (zLA (zBX sh ns) w) := by
 have hlen : ns.length = nn := by have := hn.len; rw [jG] at this; omega
 have hll : l.length ≤ 1000 := by rw [hS.len]; exact hS.size
 have HS := zH hs; have HN := zH hn; have HNS := zH hns; have HSC := zH hS
 clear hs hn hns hS
 subst hlen
 go_enter Try.func23, Try.ntmps23
 go_wp2_with fail
 refine zGl (fun wA hwA => ?_)
 have hA : Below w.heap.size w wA := by rw [hwA]; exact ba (b0 w) _
 have rA : Rw wA w.heap.size #[.int .i64 0, .string ⟨#[]⟩, .slice none 0 0] 57 := by rw [hwA]; exact Rw.new w _ _
 have hzA : wA.heap.size = w.heap.size + 1 := by rw [hwA]; simp
 clear hwA
 have HSA := zH (slb HS.out hA)
 refine (zBu sa l.length scap l wA HSA.out hll HSC.out.kids).mono ?_
 rintro e w1 ⟨aP, cP, rfl, hp, hb1⟩
 have HP := zH hp
 have HB1 := zH (bt hA hb1)
 have hz1 := hb1.size
 rw [hzA] at hz1
 have RA := zH (rA.below hb1)
 clear hp hb1 rA hzA
 go_wp2_with fail
 refine zGl (fun w2 hw2 => ?_)
 have hb2 : Below w1.heap.size w1 w2 := by rw [hw2]; exact ba (b0 w1) _
 have rM : Rw w2 w1.heap.size #[.slice sa l.length scap, .slice aP l.length cP, .slice na ns.length ncap, .int .i64 0] 88 := by rw [hw2]; exact Rw.new w1 _ _
 have hz2 : w2.heap.size = w1.heap.size + 1 := by rw [hw2]; simp
 clear hw2
 have hm : Mkr w2 ⟨w1.heap.size, sa, aP, na, scap, cP, ncap⟩ l (par l) ns 0 :=
  ⟨rM, Sl.go (Chg.ofBelow hb2) (fun k hk h => ⟨by omega, hk⟩) (slb HS.out HB1.out) (by decide), Sl.go (Chg.ofBelow hb2) (fun k hk h => ⟨by omega, hk⟩) HP.out.own.sl (by decide), Sl.go (Chg.ofBelow hb2) (fun k hk h => ⟨by omega, hk⟩) (slb HN.out HB1.out) (by decide), Nat.zero_le _⟩
 have hv := zHa (c := ⟨w1.heap.size, sa, aP, na, scap, cP, ncap⟩) (l := l) (P := par l) (ns := ns) (zW l) (fun j hj => yI l j hj) hll HNS.out 1000 sh HSC.out.size (zLW _) 0 0 w2 hm HSC.out.ix HSC.out.good
 have HB2 := zH (bt HB1.out hb2)
 have RA2 := zH (RA.out.below hb2)
 clear hb2 rM hm
 refine hv.mono ?_
 rintro e w3 ⟨a, m, cap, rfl, ht, _, hc⟩
 have r3 := RA2.out.chg hc (show ¬ (w.heap.size = w1.heap.size) by omega)
 have HT := zH ht; have HC := zH hc
 have z0 : w3.cell? ⟨w.heap.size, 0, none⟩ = some (.int .i64 0) := r3.cell 0
 have z1 : w3.cell? ⟨w.heap.size, 1, none⟩ = some (.string ⟨#[]⟩) := r3.cell 1
 have z2 : w3.cell? ⟨w.heap.size, 2, none⟩ = some (.slice none 0 0) := r3.cell 2
 have zl := r3.lt
 have zf := r3.frozen
 have HTT : Hid (zBX sh ns = (mkT ns sh 0).1) := zH rfl
 generalize (mkT ns sh 0).1 = t at *
 have hz3 := HB2.out.size
 clear ht hc r3
 go_wp2_with fail
 refine bodyPost_ret (v := .agg #[.int .i64 t.n, .string t.s, .slice a m cap]) (by simp [results, Try.results23, go_sem, z0, z1, z2]) rfl ?_
 rw [HTT.out]
 have h2 : Chg (fun b => b = w.heap.size) w3 (((w3.setCell ⟨w.heap.size, 0, none⟩ (.int .i64 t.n)).setCell ⟨w.heap.size, 1, none⟩ (.string t.s)).setCell ⟨w.heap.size, 2, none⟩ (.slice a m cap)) := (((Chg.refl (fun b => b = w.heap.size) w3).setCell (p := ⟨w.heap.size, 0, none⟩) (.inr rfl) _).setCell (p := ⟨w.heap.size, 1, none⟩) (.inr rfl) _).setCell (p := ⟨w.heap.size, 2, none⟩) (.inr rfl) _
 refine ⟨a, m, cap, rfl, TrG.go h2 (fun b _ hb => ⟨by omega, by omega⟩) HT.out, ?_⟩
 have h3 : Below w.heap.size w w3 := Chg.bt HB2.out HC.out (fun i hi h => by have h' : i = w1.heap.size := h; omega)
 exact ((h3.setCell (p := ⟨w.heap.size, 0, none⟩) (zLW _) _).setCell (p := ⟨w.heap.size, 1, none⟩) (zLW _) _).setCell (p := ⟨w.heap.size, 2, none⟩) (zLW _) _
mutual
theorem zJx {l : List Fl} {K : Int → List Int} : ∀ (s : Sh) (i : Nat), Ix l K i s → ∀ (j : Nat), i ≤ j → j < i + s.size → ∃ f, l[j]? = some f ∧ f.kids = ((K j).length : Int)
 | .mk nm r k ks, i, h, j, h1, h2 => by
  simp only [Ix] at h
  simp only [Sh.size] at h2
  by_cases hj : j = i
  ·subst hj
   exact ⟨_, h.1, by rw [h.2.1, jU]⟩
  ·exact zHy ks (i + 1) h.2.2 j (by omega) (by omega)
theorem zHy {l : List Fl} {K : Int → List Int} : ∀ (ks : List Sh) (i : Nat), IxL l K i ks → ∀ (j : Nat), i ≤ j → j < i + zC ks → ∃ f, l[j]? = some f ∧ f.kids = ((K j).length : Int)
 | [], i, _, j, h1, h2 => by simp only [zC] at h2; omega
 | s :: r, i, h, j, h1, h2 => by
  simp only [IxL] at h
  simp only [zC] at h2
  by_cases hj : j < i + s.size
  ·exact zJx s i h.1 j h1 hj
  ·exact zHy r (i + s.size) h.2 j (by omega) (by omega)
end
mutual
theorem zFk : ∀ (s : Sh), zR s → ∀ x ∈ flat s, 0 ≤ x.rep ∧ x.rep ≤ 2 ∧ 0 ≤ x.kind ∧ x.kind ≤ 4
 | .mk nm r k ks, h, x, hx => by
  simp only [zR] at h
  simp only [flat, zLU] at hx
  rcases hx with rfl | hx
  ·exact ⟨h.1, h.2.1, h.2.2.1, h.2.2.2.1⟩
  ·exact zGj ks h.2.2.2.2.2.2 x hx
theorem zGj : ∀ (ks : List Sh), yG ks → ∀ x ∈ yR ks, 0 ≤ x.rep ∧ x.rep ≤ 2 ∧ 0 ≤ x.kind ∧ x.kind ≤ 4
 | [], _, x, hx => by simp [yR] at hx
 | s :: r, h, x, hx => by
  simp only [yG] at h
  simp only [yR, List.mem_append] at hx
  rcases hx with hx | hx
  ·exact zFk s h.1 x hx
  ·exact zGj r h.2 x hx
end
theorem qJ (s : Sh) : 0 < s.size := by cases s; simp only [Sh.size]; omega
theorem Sch.wf {l : List Fl} {sh : Sh} (h : Sch l sh) : Wf l :=
 ⟨by rw [h.len]; exact h.size, by rw [h.len]; exact qJ sh, h.kids, fun x hx => by rw [h.flat] at hx; have := zFk sh h.good x hx; omega⟩
theorem Sch.goodK {l : List Fl} {sh : Sh} (h : Sch l sh) (i : Nat) (hi : i < l.length) (_ : l[i].kind = 0) : l[i].kids = ((KF l i).length : Int) := by
 obtain ⟨f, h1, h2⟩ := zJx sh 0 h.ix i (Nat.zero_le _) (by rw [Nat.zero_add, ← h.len]; exact hi)
 rw [zLQ hi] at h1
 rw [Option.some.inj h1]; exact h2
end Go.Proofs.Ytjbkjfefjhbolaa
namespace Go.Shr
def chain (P : List Int) (i : Nat) : List Nat :=
 if h : 0 ≤ P.getD i (-1) ∧ (P.getD i (-1)).toNat < i then i :: chain P (P.getD i (-1)).toNat else [i]
termination_by i
decreasing_by exact h.2
def yD (P : List Int) (k : Int) : List Nat := if k < 0 then [] else chain P k.toNat
theorem yF (P : List Int) (k : Nat) : yD P (k : Int) = chain P k := by unfold yD; rw [if_neg (by omega)]; simp
theorem qC (P : List Int) {k : Int} (h : k < 0) : yD P k = [] := by unfold yD; rw [if_pos h]
theorem xU {P : List Int} (hb : ∀ (j : Nat) (h : j < P.length), -1 ≤ P[j] ∧ P[j] < (j : Int)) {i : Nat} (hi : i < P.length) : chain P i = i :: yD P P[i] := by
 have h1 := hb i hi
 have e : P.getD i (-1) = P[i] := by simp [zLY, hi]
 rw [chain, e]
 unfold yD
 by_cases h : P[i] < 0
 ·rw [dif_neg (by omega), if_pos h]
 ·rw [dif_pos ⟨by omega, by omega⟩, if_neg h]
theorem zAY (P : List Int) : ∀ (i x : Nat), x ∈ chain P i → x ≤ i := by
 intro i
 induction i using zLX with
 | _ i ih =>
  intro x hx
  rw [chain] at hx
  split at hx
  ·rename_i h
   rcases zLU.1 hx with rfl | hx
   ·exact zLW _
   ·have := ih _ h.2 x hx; omega
  ·simp at hx; omega
theorem zAu (P : List Int) (i : Nat) : i ∈ chain P i := by rw [chain]; split <;> simp
theorem zBH (P : List Int) (a : Nat) : ∀ (i : Nat), a ∈ chain P i → ∃ A, chain P i = A ++ chain P a ∧ ∀ x ∈ A, a < x := by
 intro i
 induction i using zLX with
 | _ i ih =>
  intro ha
  by_cases hai : a = i
  ·subst hai; exact ⟨[], rfl, by simp⟩
  ·have hlt := zAY P i a ha
   rw [chain] at ha
   split at ha
   ·rename_i h
    rcases zLU.1 ha with rfl | ha
    ·exact absurd rfl hai
    ·obtain ⟨A, e, hA⟩ := ih _ h.2 ha
     refine ⟨i :: A, ?_, ?_⟩
     ·rw [chain, dif_pos h, e]; rfl
     ·intro x hx
      rcases zLU.1 hx with rfl | hx
      ·omega
      ·exact hA x hx
   ·simp at ha; exact absurd ha hai
def yU : List UInt8 → List UInt8
 | [] => []
 | [x] => [x]
 | x :: y :: r => x :: 46 :: yU (y :: r)
theorem zDB (x : UInt8) {l : List UInt8} (h : l ≠ []) : yU (x :: l) = x :: 46 :: yU l := by
 cases l with
 | nil => exact absurd rfl h
 | cons y r => rfl
theorem zAn : ∀ (l : List UInt8), l ≠ [] → (yU l).length + 1 = 2 * l.length
 | [], h => absurd rfl h
 | [x], _ => rfl
 | x :: y :: r, _ => by
  have := zAn (y :: r) (by simp)
  simp only [yU, List.length_cons] at *; omega
theorem zEG : ∀ (a c : List UInt8), a ≠ [] → c ≠ [] → yU (a ++ c) = yU a ++ 46 :: yU c
 | [], c, h, _ => absurd rfl h
 | [x], c, _, hc => by rw [List.singleton_append, zDB x hc]; rfl
 | x :: y :: r, c, _, hc => by
  have := zEG (y :: r) c (by simp) hc
  simp only [zLT] at this ⊢
  rw [yU, this, yU]; simp
theorem zCB : ∀ (a b : List UInt8), yU a = yU b → a = b
 | [], [], _ => rfl
 | [], [x], h => by simp [yU] at h
 | [], x :: y :: r, h => by simp [yU] at h
 | [x], [], h => by simp [yU] at h
 | x :: y :: r, [], h => by simp [yU] at h
 | [x], [z], h => by simpa [yU] using h
 | [x], z :: w :: q, h => by simp [yU] at h
 | x :: y :: r, [z], h => by simp [yU] at h
 | x :: y :: r, z :: w :: q, h => by
  simp only [yU, List.cons.injEq, true_and] at h
  have := zCB (y :: r) (w :: q) h.2
  rw [h.1, this]
def wY (own path : List UInt8) : Bool := if path.length < own.length then (own.getD path.length 0 == 46) && (own.take path.length == path) else own == path
theorem zE2 {a b : List UInt8} (ha : a ≠ []) (hb : b ≠ []) : wY (yU a) (yU b) = true ↔ b <+: a := by
 have la := zAn a ha
 have lb := zAn b hb
 unfold wY
 by_cases hl : (yU b).length < (yU a).length
 ·rw [if_pos hl]
  have hk : b.length < a.length := by omega
  have ht : (a.take b.length) ≠ [] := by
   intro h
   have := congrArg List.length h
   have hbp : 0 < b.length := by cases b with | nil => exact absurd rfl hb | cons _ _ => simp
   rw [List.length_take, List.length_nil] at this; omega
  have hd : (a.drop b.length) ≠ [] := by
   intro h
   have := congrArg List.length h
   simp at this; omega
  have e := zEG (a.take b.length) (a.drop b.length) ht hd
  rw [List.take_append_drop] at e
  have lt := zAn _ ht
  have htl : (a.take b.length).length = b.length := by rw [List.length_take]; omega
  rw [htl] at lt
  have hlen : (yU (a.take b.length)).length = (yU b).length := by omega
  have e1 : (yU a).getD (yU b).length 0 = 46 := by
   rw [e, ← hlen]; simp [zLY]
  have e2 : (yU a).take (yU b).length = yU (a.take b.length) := by
   rw [e, ← hlen, List.take_left]
  rw [e1, e2]
  simp only [beq_self_eq_true, Bool.true_and, beq_iff_eq]
  constructor
  ·intro h
   have := zCB _ _ h
   rw [← this]; exact List.take_prefix _ _
  ·intro h
   rw [List.prefix_iff_eq_take] at h
   rw [← h]
 ·rw [if_neg hl]
  simp only [beq_iff_eq]
  constructor
  ·intro h; rw [zCB _ _ h]; exact List.prefix_refl _
  ·intro h
   have hlen := h.length_le
   have : b = a := h.eq_of_length (by omega)
   rw [this]
def up (P : List Int) (i : Nat) : List Nat := (chain P i).filter (fun x => decide (0 < x))
def upI (P : List Int) (k : Int) : List Nat := if k ≤ 0 then [] else up P k.toNat
theorem zFr (P : List Int) {k : Int} (h : k ≤ 0) : upI P k = [] := by unfold upI; rw [if_pos h]
theorem zE5 (P : List Int) {k : Nat} (h : 0 < k) : upI P (k : Int) = up P k := by unfold upI; rw [if_neg (by omega)]; simp
theorem zBc (P : List Int) : chain P 0 = [0] := by rw [chain, dif_neg (by omega)]
theorem zKs {P : List Int} (hb : ∀ (j : Nat) (h : j < P.length), -1 ≤ P[j] ∧ P[j] < (j : Int)) {i : Nat} (hi : i < P.length) (h0 : 0 < i) : up P i = i :: upI P P[i] := by
 unfold up
 rw [xU hb hi, List.filter_cons, if_pos (by simpa using h0)]
 congr 1
 by_cases h1 : P[i] < 0
 ·rw [qC P h1, zFr P (by omega)]; rfl
 ·obtain ⟨k, hk⟩ : ∃ k : Nat, P[i] = (k : Int) := ⟨P[i].toNat, by omega⟩
  rw [hk, yF]
  by_cases h2 : k = 0
  ·subst h2; rw [zBc, zFr P (by omega)]; rfl
  ·rw [zE5 P (by omega)]; rfl
theorem zKR {P : List Int} {i x : Nat} : x ∈ up P i ↔ x ∈ chain P i ∧ 0 < x := by unfold up; simp
def zCU (nm : Nat → ByteArray) : List Nat → ByteArray → ByteArray
 | [], out => out
 | k :: r, out => zCU nm r (nm k ++ ⟨#[46]⟩ ++ out)
theorem zCM {nm : Nat → ByteArray} {b : Nat → UInt8} : ∀ (c : List Nat) (out : ByteArray) (L : List UInt8), (∀ x ∈ c, (nm x).data.toList = [b x]) → L ≠ [] → out.data.toList = yU L → (zCU nm c out).data.toList = yU ((c.map b).reverse ++ L)
 | [], out, L, _, _, h => by simpa [zCU] using h
 | k :: r, out, L, hn, hL, h => by
  have h1 := hn k List.mem_cons_self
  rw [zCU, zCM r _ (b k :: L) (fun x hx => hn x (List.mem_cons_of_mem _ hx)) (by simp) (by
   rw [zDB _ hL]
   simp [ByteArray.data_append, h1, h])]
  simp
end Go.Shr
namespace Go.Proofs.Ytjbkjfefjhbolaa
open Go.RowKit Go.Shr
def zAL (s : ByteArray) : UInt8 := s.data.toList.headD 0
mutual
def zAf (pre : List UInt8) : Sh → List (List UInt8)
 | .mk _ _ _ ks => pre :: zAx pre ks
def zAx (pre : List UInt8) : List Sh → List (List UInt8)
 | [] => []
 | s :: r => zAf (pre ++ [zAL s.name]) s ++ zAx pre r
end
mutual
theorem zCs : ∀ (s : Sh) (pre : List UInt8), (zAf pre s).length = s.size
 | .mk _ _ _ ks, pre => by simp only [zAf, List.length_cons, Sh.size, xP ks]; omega
theorem xP : ∀ (ks : List Sh) (pre : List UInt8), (zAx pre ks).length = zC ks
 | [], _ => rfl
 | s :: r, pre => by simp only [zAx, List.length_append, zC, zCs s, xP r]
end
theorem zBA : ∀ (ks : List Sh) (g : Int) (i : Nat) (pre : List UInt8) (k : Nat) (x : List UInt8) (p : Int) (f : Fl), (zAx pre ks)[k]? = some x → (qD g i ks)[k]? = some p → (yR ks)[k]? = some f →
  (p = g ∧ x = pre ++ [zAL f.name]) ∨ (∃ q : Nat, p = ((i + q : Nat) : Int) ∧ q < k ∧ ∃ y, (zAx pre ks)[q]? = some y ∧ x = y ++ [zAL f.name])
 | [], _, _, _, _, _, _, _, h, _, _ => by simp [zAx] at h
 | .mk nm rp kd qs :: r, g, i, pre, 0, x, p, f, h1, h2, h3 => by
  simp [zAx, zAf, Sh.name] at h1
  simp [qD, wE] at h2
  simp [yR, flat] at h3
  subst h3
  exact .inl ⟨h2.symm, h1.symm⟩
 | .mk nm rp kd qs :: r, g, i, pre, k + 1, x, p, f, h1, h2, h3 => by
  simp only [zAx, zAf, Sh.name, zLT, zLP] at h1
  simp only [qD, wE, zLT, zLP] at h2
  simp only [yR, flat, zLT, zLP] at h3
  by_cases hk : k < zC qs
  ·rw [zLS (by rw [xP]; exact hk)] at h1
   rw [zLS (by rw [qA]; exact hk)] at h2
   rw [zLS (by rw [yZ]; exact hk)] at h3
   rcases zBA qs i (i + 1) (pre ++ [zAL nm]) k x p f h1 h2 h3 with ⟨e1, e2⟩ | ⟨q, e1, e2, y, e3, e4⟩
   ·exact .inr ⟨0, by simpa using e1, by omega, _, rfl, e2⟩
   ·refine .inr ⟨q + 1, by rw [e1]; congr 1; omega, by omega, y, ?_, e4⟩
    simp only [zAx, zAf, Sh.name, zLT, zLP]
    rw [zLS (by rw [xP]; omega)]
    exact e3
  ·rw [zLR (by rw [xP]; omega), xP] at h1
   rw [zLR (by rw [qA]; omega), qA] at h2
   rw [zLR (by rw [yZ]; omega), yZ] at h3
   rcases zBA r g (i + (Sh.mk nm rp kd qs).size) pre (k - zC qs) x p f h1 h2 h3 with e | ⟨q, e1, e2, y, e3, e4⟩
   ·exact .inl e
   ·refine .inr ⟨zC qs + 1 + q, by rw [e1]; simp only [Sh.size]; congr 1; omega, by omega, y, ?_, e4⟩
    rw [show zC qs + 1 + q = (zC qs + q) + 1 by omega]
    simp only [zAx, zAf, Sh.name, zLT, zLP]
    rw [zLR (by rw [xP]; omega), xP, show zC qs + q - zC qs = q by omega]
    exact e3
termination_by ks => zC ks
decreasing_by
 ·simp only [zC, Sh.size]; omega
 ·simp only [zC, Sh.size]; omega
structure Wy (l : List Fl) (W : Nat → List UInt8) : Prop where
 pos : 0 < l.length
 len : l.length ≤ 20
 name : ∀ (i : Nat) (h : i < l.length), ∃ c : UInt8, l[i].name.data.toList = [c] ∧ c.toNat < 128 ∧ c ≠ 46
 root : W 0 = []
 step : ∀ (i : Nat) (h : i < l.length), 0 < i → ∃ k : Nat, (par l)[i]? = some (k : Int) ∧ k < i ∧ W i = W k ++ [zAL l[i].name]
 inj : ∀ i j, i < l.length → j < l.length → W i = W j → i = j
def zBR (sh : Sh) (i : Nat) : List UInt8 := (zAf [] sh).getD i []
theorem Wy.of {l : List Fl} {sh : Sh} (h : Sch l sh) (hs : l.length ≤ 20) (hn : ∀ f ∈ l, ∃ c : UInt8, f.name.data.toList = [c] ∧ c.toNat < 128 ∧ c ≠ 46) (hd : (zAf [] sh).Nodup) : Wy l (zBR sh) := by
 have hl := h.len
 have hwl := zCs sh []
 refine ⟨by rw [hl]; exact qJ sh, hs, fun i hi => hn _ (List.getElem_mem hi), ?_, fun i hi h0 => ?_, fun i j hi hj e => ?_⟩
 ·obtain ⟨nm, rp, kd, ks⟩ := sh; rfl
 ·obtain ⟨k, rfl⟩ : ∃ k, i = k + 1 := ⟨i - 1, by omega⟩
  have hp := zF0 sh h.good h.kind
  rw [← h.flat] at hp
  rw [hp]
  have hf : l[k + 1]? = some l[k + 1] := zLQ hi
  obtain ⟨f, hff⟩ : ∃ f, f = l[k + 1] := ⟨_, rfl⟩
  rw [← hff] at hf
  rw [← hff, ]
  rw [h.flat] at hf
  obtain ⟨nm, rp, kd, ks⟩ := sh
  have hk : k < zC ks := by rw [hl] at hi; simp only [Sh.size] at hi; omega
  simp only [flat, zLP] at hf
  have e2 : (qD ((0 : Nat) : Int) 1 ks)[k]? = some ((qD ((0 : Nat) : Int) 1 ks)[k]'(by rw [qA]; exact hk)) := zLQ _
  have e1 : (zAx [] ks)[k]? = some ((zAx [] ks)[k]'(by rw [xP]; exact hk)) := zLQ _
  have hw : zBR (.mk nm rp kd ks) (k + 1) = (zAx [] ks)[k]'(by rw [xP]; exact hk) := by
   simp [zBR, zAf, zLY, e1]
  rw [hw]
  simp only [wE, zLP, Nat.zero_add]
  rcases zBA ks _ 1 [] k _ _ f e1 e2 hf with ⟨a1, a2⟩ | ⟨q, a1, a2, y, a3, a4⟩
  ·exact ⟨0, by rw [e2, a1], by omega, by rw [a2]; rfl⟩
  ·refine ⟨1 + q, by rw [e2, a1], by omega, ?_⟩
   rw [a4]
   simp [zBR, zAf, zLY, Nat.add_comm 1 q, a3]
 ·have a1 : (zAf [] sh)[i]? = some (zBR sh i) := by
   unfold zBR; rw [zLV, zLQ (by omega)]; rfl
  have a2 : (zAf [] sh)[j]? = some (zBR sh j) := by
   unfold zBR; rw [zLV, zLQ (by omega)]; rfl
  rw [e, ← a2] at a1
  exact (List.getElem?_inj (by omega) hd).1 a1
theorem getElem?_par {l : List Fl} {i : Nat} {k : Int} (h : (par l)[i]? = some k) : ∃ hi : i < (par l).length, (par l)[i] = k := List.getElem?_eq_some_iff.1 h
theorem Wy.chain {l : List Fl} {W : Nat → List UInt8} (h : Wy l W) : ∀ (i : Nat), i < l.length → ∀ j, j < l.length → (j ∈ chain (par l) i ↔ W j <+: W i) := by
 intro i
 induction i using zLX with
 | _ i ih =>
  intro hi j hj
  by_cases h0 : i = 0
  ·subst h0
   rw [zBc, h.root, List.prefix_nil]
   constructor
   ·intro e
    obtain rfl : j = 0 := by simpa using e
    exact h.root
   ·intro e
    rw [← h.root] at e
    simp [h.inj j 0 hj hi e]
  ·obtain ⟨k, hk, hki, hw⟩ := h.step i hi (by omega)
   obtain ⟨hpl, hpe⟩ := getElem?_par hk
   rw [xU (fun j hj => yI l j hj) hpl, hpe, yF, hw, zLU, ih k hki (by omega) j hj, List.prefix_concat_iff]
   constructor
   ·rintro (e | e)
    ·subst e; exact .inl hw
    ·exact .inr e
   ·rintro (e | e)
    ·exact .inl (h.inj j i hj hi (e.trans hw.symm))
    ·exact .inr e
theorem Wy.upI {l : List Fl} {W : Nat → List UInt8} (h : Wy l W) : ∀ (i : Nat), i < l.length → W i = ((upI (par l) (i : Int)).map (fun k => zAL (l.getD k Fl.none).name)).reverse := by
 intro i
 induction i using zLX with
 | _ i ih =>
  intro hi
  by_cases h0 : i = 0
  ·subst h0
   rw [h.root, zFr _ (by omega)]; rfl
  ·obtain ⟨k, hk, hki, hw⟩ := h.step i hi (by omega)
   obtain ⟨hpl, hpe⟩ := getElem?_par hk
   rw [zE5 _ (by omega), zKs (fun j hj => yI l j hj) hpl (by omega), hpe, hw, ih k hki (by omega)]
   simp [hi]
def zBT (l : List Fl) (i : Nat) : ByteArray := zCU (fun k => (l.getD k Fl.none).name) (upI (par l) ((par l).getD i (-1))) (l.getD i Fl.none).name
theorem Wy.own {l : List Fl} {W : Nat → List UInt8} (h : Wy l W) {i : Nat} (h0 : 0 < i) (hi : i < l.length) : (zBT l i).data.toList = yU (W i) := by
 obtain ⟨k, hk, hki, hw⟩ := h.step i hi h0
 have e : (par l).getD i (-1) = (k : Int) := by rw [zLV, hk]; rfl
 have hb : ∀ x, x < l.length → (l.getD x Fl.none).name.data.toList = [zAL (l.getD x Fl.none).name] := by
  intro x hx
  obtain ⟨c, h1, _, _⟩ := h.name x hx
  have : l.getD x Fl.none = l[x] := by simp [zLY, hx]
  rw [this, h1, zAL, h1]; rfl
 unfold zBT
 rw [e, zCM (b := fun k => zAL (l.getD k Fl.none).name) _ _ [zAL (l.getD i Fl.none).name] (fun x hx => hb x ?_) (by simp) (by rw [hb i hi]; rfl), hw, h.upI k (by omega)]
 ·simp [hi]
 ·unfold Go.Shr.upI at hx
  split at hx
  ·cases hx
  ·have := zAY _ _ _ (zKR.1 hx).1
   simp at this; omega
theorem Wy.ne {l : List Fl} {W : Nat → List UInt8} (h : Wy l W) {i : Nat} (h0 : 0 < i) (hi : i < l.length) : W i ≠ [] := by
 obtain ⟨k, _, _, hw⟩ := h.step i hi h0
 rw [hw]; simp
end Go.Proofs.Ytjbkjfefjhbolaa
