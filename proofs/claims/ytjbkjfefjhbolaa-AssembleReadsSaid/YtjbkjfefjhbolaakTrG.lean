import Derived.Test.YtjbkjfefjhbolaakSchP
set_option linter.all false
open List renaming nil_append → zLP, cons_append → zLQ, mem_cons → zLR, length_cons → zLS, getElem?_append_right → zLT, mem_append → zLU, append_nil → zLV, length_append → zLW, append_assoc → zLX, drop_eq_getElem_cons → zLY, drop_eq_nil_of_le → zL0, range → zL4
open Nat renaming zero_add → zLZ, lt_of_lt_of_le → zL2, sub_self → zL3
open Int renaming emod_lt_of_pos → zL1
namespace Go.Proofs.Ytjbkjfefjhbolaa
open Go.RowKit Go.Shr
inductive Sh where
 | mk (name : ByteArray) (rep kind : Int) (kids : List Sh)
def Sh.name : Sh → ByteArray | .mk n _ _ _ => n
def Sh.rep : Sh → Int | .mk _ r _ _ => r
def Sh.kind : Sh → Int | .mk _ _ k _ => k
def Sh.kids : Sh → List Sh | .mk _ _ _ ks => ks
mutual
def Sh.size : Sh → Nat
 | .mk _ _ _ ks => 1 + zC ks
def zC : List Sh → Nat
 | [] => 0
 | s :: r => s.size + zC r
end
mutual
def flat : Sh → List Fl
 | .mk nm r k ks => ⟨nm, r, k, ks.length⟩ :: yR ks
def yR : List Sh → List Fl
 | [] => []
 | s :: r => flat s ++ yR r
end
mutual
def wE (g : Int) (i : Nat) : Sh → List Int
 | .mk _ _ _ ks => g :: qD i (i + 1) ks
def qD (g : Int) (i : Nat) : List Sh → List Int
 | [] => []
 | s :: r => wE g i s ++ qD g (i + s.size) r
end
def yX : Nat → List Sh → List Int
 | _, [] => []
 | i, s :: r => (i : Int) :: yX (i + s.size) r
mutual
def zR : Sh → Prop
 | .mk _ r k ks => 0 ≤ r ∧ r ≤ 2 ∧ 0 ≤ k ∧ k ≤ 4 ∧ (k ≠ 0 → ks = []) ∧ (k = 0 → ks ≠ []) ∧ yG ks
def yG : List Sh → Prop
 | [] => True
 | s :: r => zR s ∧ yG r
end
theorem zA3 : ∀ (a b : List Sh), yG (a ++ b) ↔ yG a ∧ yG b
 | [], b => by simp [yG]
 | s :: a, b => by simp [yG, zA3 a b, and_assoc]
theorem wM : ∀ {ks : List Sh} {s : Sh}, yG ks → s ∈ ks → zR s
 | x :: ks, s, h, hm => by
  simp only [yG] at h
  rcases zLR.1 hm with rfl | hm
  ·exact h.1
  ·exact wM h.2 hm
theorem zA2 : ∀ (a b : List Sh), yR (a ++ b) = yR a ++ yR b
 | [], b => by simp [yR]
 | s :: a, b => by simp [yR, zA2 a b]
theorem yA : ∀ (a b : List Sh), zC (a ++ b) = zC a + zC b
 | [], b => by simp [zC]
 | s :: a, b => by simp [zC, yA a b]; omega
mutual
theorem xX : ∀ s : Sh, (flat s).length = s.size
 | .mk _ _ _ ks => by simp only [flat, zLS, Sh.size, yZ ks]; omega
theorem yZ : ∀ ks : List Sh, (yR ks).length = zC ks
 | [] => rfl
 | s :: r => by simp only [yR, zLW, zC, xX s, yZ r]
end
mutual
theorem zA1 : ∀ (s : Sh) (g : Int) (i : Nat), (wE g i s).length = s.size
 | .mk _ _ _ ks, g, i => by simp only [wE, zLS, Sh.size, qA ks]; omega
theorem qA : ∀ (ks : List Sh) (g : Int) (i : Nat), (qD g i ks).length = zC ks
 | [], _, _ => rfl
 | s :: r, g, i => by simp only [qD, zLW, zC, zA1 s, qA r]
end
mutual
theorem zEr : ∀ (s : Sh) (g : Int) (i : Nat) (x : Int), x ∈ wE g i s → x = g ∨ ((i : Int) ≤ x ∧ x < (i : Int) + s.size)
 | .mk _ _ _ ks, g, i, x, h => by
  simp only [wE, zLR] at h
  rcases h with h | h
  ·exact .inl h
  ·have := zBB ks i (i + 1) x h
   simp only [Sh.size]; omega
theorem zBB : ∀ (ks : List Sh) (g : Int) (i : Nat) (x : Int), x ∈ qD g i ks → x = g ∨ ((i : Int) ≤ x ∧ x < (i : Int) + zC ks)
 | [], _, _, _, h => by simp [qD] at h
 | s :: r, g, i, x, h => by
  simp only [qD, zLU] at h
  rcases h with h | h
  ·have := zEr s g i x h; simp only [zC]; omega
  ·have := zBB r g (i + s.size) x h; simp only [zC]; omega
end
theorem zH1 (i : Nat) {st st2 : Stk} (l : List Fl) (h : qH st = qH st2) : qZ i st l = qZ i st2 l := by
 cases l with
 | nil => rfl
 | cons f l => simp only [qZ, zCJ, jE, h]
mutual
theorem zIO : ∀ (s : Sh) (_ : zR s) (i : Nat) (g c : Int) (st : Stk) (rest : List Fl), 0 < c → qZ i ((g, c) :: st) (flat s ++ rest) = wE g i s ++ qZ (i + s.size) ((g, c - 1) :: st) rest
 | .mk nm r k ks, hg, i, g, c, st, rest, hc => by
  simp only [zR] at hg
  obtain ⟨_, _, _, _, h1, h2, h3⟩ := hg
  have hp : qH ((g, c) :: st) = (g, c) :: st := by simp [qH]; omega
  simp only [flat, zLQ, qZ, zCJ, jE, hp, wE, Sh.size]
  congr 1
  by_cases hk : k = 0
  ·rw [if_pos hk, zCx ks h3 (i + 1) i ks.length ((g, c - 1) :: st) rest (Int.le_refl _)]
   congr 1
   rw [Nat.add_assoc]
   exact zH1 _ _ (by simp [qH])
  ·rw [if_neg hk, h1 hk]
   simp only [yR, qD, zC, zLP]
theorem zCx : ∀ (ks : List Sh) (_ : yG ks) (i : Nat) (g c : Int) (st : Stk) (rest : List Fl), (ks.length : Int) ≤ c → qZ i ((g, c) :: st) (yR ks ++ rest) = qD g i ks ++ qZ (i + zC ks) ((g, c - ks.length) :: st) rest
 | [], _, i, g, c, st, rest, _ => by simp [yR, qD, zC]
 | s :: r, hg, i, g, c, st, rest, hc => by
  simp only [yG] at hg
  simp only [zLS] at hc ⊢
  simp only [yR, zLX, qD, zC]
  rw [zIO s hg.1 i g c st _ (by omega), zCx r hg.2 (i + s.size) g (c - 1) st rest (by omega)]
  rw [Nat.add_assoc]
  congr 4
  congr 1
  push_cast
  omega
end
theorem zF0 (s : Sh) (hg : zR s) (hk : s.kind = 0) : par (flat s) = wE (-1) 0 s := by
 obtain ⟨nm, r, k, ks⟩ := s
 simp only [Sh.kind] at hk
 subst hk
 simp only [zR] at hg
 have h := zCx ks hg.2.2.2.2.2.2 1 0 ks.length [] [] (Int.le_refl _)
 simp only [zLV] at h
 simp only [par, flat, qZ, zCJ, jE, qH, wE, if_true, zLZ]
 congr 1
 rw [show ((0 : Nat) : Int) = 0 from rfl, h]
 simp [qZ]
def kf : Nat → List Int → Int → List Int
 | _, [], _ => []
 | o, x :: p, v => if x = v then (o : Int) :: kf (o + 1) p v else kf (o + 1) p v
theorem zAm : ∀ (a b : List Int) (o : Nat) (v : Int), kf o (a ++ b) v = kf o a v ++ kf (o + a.length) b v
 | [], b, o, v => by simp [kf]
 | x :: a, b, o, v => by
  simp only [zLQ, kf, zAm a b, zLS]
  rw [show o + 1 + a.length = o + (a.length + 1) by omega]
  split <;> simp
theorem zCk : ∀ (p : List Int) (o : Nat) (v : Int), (∀ x ∈ p, x ≠ v) → kf o p v = []
 | [], _, _, _ => rfl
 | x :: p, o, v, h => by
  rw [kf, if_neg (h x (List.mem_cons_self ..))]
  exact zCk p _ v fun y hy => h y (List.mem_cons_of_mem _ hy)
theorem wJ (P : List Int) (v : Int) : zK P v = kf 0 P v := by
 suffices h : ∀ n (P : List Int), P.length = n → zK P v = kf 0 P v from h _ P rfl
 intro n
 induction n with
 | zero => intro P h; rw [List.eq_nil_of_length_eq_zero h]; rfl
 | succ n ih =>
  intro P h
  have hne : P ≠ [] := by intro e; rw [e] at h; simp at h
  obtain ⟨Q, x, rfl⟩ : ∃ Q x, P = Q ++ [x] := ⟨P.dropLast, P.getLast hne, (List.dropLast_concat_getLast hne).symm⟩
  have hl : Q.length = n := by simpa using h
  rw [qK, ih Q hl, zAm, kf, kf, zLZ]
theorem zHu : ∀ (ks : List Sh) (g : Int) (i : Nat), g < i → kf i (qD g i ks) g = yX i ks
 | [], _, _, _ => rfl
 | .mk nm r k q :: ks, g, i, h => by
  simp only [qD, yX]
  rw [zAm, zA1, zHu ks g _ (by omega)]
  simp only [wE, kf, if_true]
  rw [zCk]
  ·rfl
  ·intro x hx e
   have := zBB q i (i + 1) x hx
   omega
mutual
def Ix (l : List Fl) (K : Int → List Int) : Nat → Sh → Prop
 | i, .mk nm r k ks => l[i]? = some ⟨nm, r, k, ks.length⟩ ∧ K i = yX (i + 1) ks ∧ IxL l K (i + 1) ks
def IxL (l : List Fl) (K : Int → List Int) : Nat → List Sh → Prop
 | _, [] => True
 | i, s :: r => Ix l K i s ∧ IxL l K (i + s.size) r
end
mutual
theorem zJw : ∀ (s : Sh) (g : Int) (i : Nat) (A B : List Int) (C D : List Fl), g < i → A.length = i → C.length = i → (∀ x ∈ A, x < (i : Int)) → (∀ x ∈ B, x < (i : Int) ∨ (i : Int) + s.size ≤ x) → Ix (C ++ flat s ++ D) (fun v => kf 0 (A ++ wE g i s ++ B) v) i s
 | .mk nm r k ks, g, i, A, B, C, D, hg, hA, hC, h1, h2 => by
  simp only [Sh.size] at h2
  simp only [Ix]
  refine ⟨?_, ?_, ?_⟩
  ·rw [zLX, zLT (by omega), hC, zL3]
   simp [flat]
  ·rw [zAm, zAm, zCk A _ _ (fun x hx => by have := h1 x hx; omega), zCk B _ _ (fun x hx => by have := h2 x hx; omega), zLZ, hA]
   simp only [wE, kf, zLP, zLV]
   rw [if_neg (by omega), zHu ks i (i + 1) (by omega)]
  ·have e1 : A ++ wE g i (.mk nm r k ks) ++ B = (A ++ [g]) ++ qD i (i + 1) ks ++ B := by simp [wE]
   have e2 : C ++ flat (.mk nm r k ks) ++ D = (C ++ [⟨nm, r, k, ks.length⟩]) ++ yR ks ++ D := by simp [flat]
   rw [e1, e2]
   refine zHw ks i (i + 1) _ B _ D (by omega) (by simp [hA]) (by simp [hC]) (fun x hx => ?_) (fun x hx => ?_)
   ·rcases zLU.1 hx with hx | hx
    ·have := h1 x hx; omega
    ·have : x = g := by simpa using hx
     omega
   ·have := h2 x hx; omega
theorem zHw : ∀ (ks : List Sh) (g : Int) (i : Nat) (A B : List Int) (C D : List Fl), g < i → A.length = i → C.length = i → (∀ x ∈ A, x < (i : Int)) → (∀ x ∈ B, x < (i : Int) ∨ (i : Int) + zC ks ≤ x) → IxL (C ++ yR ks ++ D) (fun v => kf 0 (A ++ qD g i ks ++ B) v) i ks
 | [], _, _, _, _, _, _, _, _, _, _, _ => by simp only [IxL]
 | s :: r, g, i, A, B, C, D, hg, hA, hC, h1, h2 => by
  simp only [zC] at h2
  simp only [IxL]
  constructor
  ·have e1 : A ++ qD g i (s :: r) ++ B = A ++ wE g i s ++ (qD g (i + s.size) r ++ B) := by simp [qD]
   have e2 : C ++ yR (s :: r) ++ D = C ++ flat s ++ (yR r ++ D) := by simp [yR]
   rw [e1, e2]
   refine zJw s g i A _ C _ hg hA hC h1 (fun x hx => ?_)
   rcases zLU.1 hx with hx | hx
   ·have := zBB r g _ x hx; omega
   ·have := h2 x hx; omega
  ·have e1 : A ++ qD g i (s :: r) ++ B = (A ++ wE g i s) ++ qD g (i + s.size) r ++ B := by simp [qD]
   have e2 : C ++ yR (s :: r) ++ D = (C ++ flat s) ++ yR r ++ D := by simp [yR]
   rw [e1, e2]
   refine zHw r g (i + s.size) _ B _ D (by omega) (by simp [hA, zA1]) (by simp [hC, xX]) (fun x hx => ?_) (fun x hx => ?_)
   ·rcases zLU.1 hx with hx | hx
    ·have := h1 x hx; omega
    ·have := zEr s g i x hx; omega
   ·have := h2 x hx; omega
end
theorem zJ7 (s : Sh) (hg : zR s) (hk : s.kind = 0) : Ix (flat s) (fun v => zK (par (flat s)) v) 0 s := by
 have h := zJw s (-1) 0 [] [] [] [] (by omega) rfl rfl (by simp) (by simp)
 simp only [zLP, zLV] at h
 have e : (fun v => zK (par (flat s)) v) = fun v => kf 0 (wE (-1) 0 s) v := by
  funext v; rw [wJ, zF0 s hg hk]
 rw [e]; exact h
structure Hd where
 name : ByteArray
 rep : Int
 kind : Int
abbrev Zs := List (Hd × List Sh)
def zT (e : Nat) : Zs → List Fl
 | [] => []
 | x :: r => zT 1 r ++ ⟨x.1.name, x.1.rep, x.1.kind, (x.2.length + e : Nat)⟩ :: yR x.2
def wP : Zs → List Int
 | [] => []
 | _ :: r => wP r ++ [((zT 1 r).length : Int)]
theorem zBC : ∀ z : Zs, (wP z).length = z.length
 | [] => rfl
 | x :: r => by simp [wP, zBC r]
theorem zEM (a b : Nat) : ∀ z : Zs, (zT a z).length = (zT b z).length
 | [] => rfl
 | x :: r => by simp [zT]
theorem zGL (x : Hd × List Sh) (r : Zs) : (wP (x :: r))[r.length]? = some ((zT 1 r).length : Int) := by
 rw [wP, zLT (by rw [zBC]; exact Nat.le_refl _), zBC, zL3]; rfl
theorem zBF (e : Nat) (x : Hd × List Sh) (r : Zs) : (zT e (x :: r))[(zT 1 r).length]? = some ⟨x.1.name, x.1.rep, x.1.kind, (x.2.length + e : Nat)⟩ := by
 rw [zT, zLT (Nat.le_refl _), zL3]; rfl
theorem zBU (x : Hd × List Sh) (r : Zs) : (zQ (wP (x :: r)))[r.length]? = some (.int .i64 ((zT 1 r).length : Int)) := by
 simp only [zQ, List.getElem?_map, zGL x r]; rfl
theorem zDR {l : List Fl} {i : Nat} {f : Fl} (h : l[i]? = some f) : (fls l)[i * 4 + 3]? = some (.int .i64 f.kids) := by
 obtain ⟨h1, h2⟩ := List.getElem?_eq_some_iff.1 h
 have := (yB _ _ h1).2.2.2
 rw [h2] at this; exact this
theorem zBb (a b : List Fl) : fls (a ++ b) = fls a ++ fls b := by simp [fls]
theorem zI9 (x : Fl) (b : List Fl) : fls (x :: b) = [.string x.name, .int .i64 x.rep, .int .i64 x.kind, .int .i64 x.kids] ++ fls b := by simp [fls]
theorem zEN (x : Hd × List Sh) (r : Zs) : (fls (zT 0 (x :: r))).set ((zT 1 r).length * 4 + 3) (.int .i64 ((x.2.length : Int) + 1)) = fls (zT 1 (x :: r)) := by
 simp only [zT, zBb, zI9]
 rw [List.set_append_right _ _ (by rw [wG]; omega), wG, show (zT 1 r).length * 4 + 3 - (zT 1 r).length * 4 = 3 by omega]
 simp
def zA6 : Nat → Zs → Zs
 | 0, z => z
 | k + 1, z => match z with
  | x :: y :: r => if x.2 = [] then z else zA6 k ((y.1, y.2 ++ [.mk x.1.name x.1.rep x.1.kind x.2]) :: r)
  | z => z
theorem zCG (x y : Hd × List Sh) (r : Zs) : zT 0 ((y.1, y.2 ++ [.mk x.1.name x.1.rep x.1.kind x.2]) :: r) = zT 0 (x :: y :: r) := by
 simp only [zT, zA2, yR, flat, zLV, zLW, zLS, List.length_nil, zLX, zLQ]
 simp
theorem zH4 (x y : Hd × List Sh) (ks : List Sh) (r : Zs) : wP ((y.1, ks) :: r) = (wP (x :: y :: r)).take (r.length + 1) := by
 simp only [wP]
 rw [List.take_left' (by simp [zBC])]
def zCS (nm : ByteArray) (rep kind : Int) : Zs → Zs
 | [] => []
 | x :: r => if kind = 0 then (⟨nm, rep, 0⟩, []) :: x :: r else (x.1, x.2 ++ [.mk nm rep kind []]) :: r
theorem zAO (nm : ByteArray) (rep kind : Int) (x : Hd × List Sh) (r : Zs) : zT 0 (zCS nm rep kind (x :: r)) = zT 1 (x :: r) ++ [⟨nm, rep, kind, 0⟩] := by
 unfold zCS
 dsimp only
 split
 ·rename_i h; subst h; simp [zT, yR]
 ·simp [zT, zA2, yR, flat]
def zBM (i : Nat) : ByteArray := ⟨#[UInt8.ofNat (97 + i)]⟩
def zAl (n : Nat) (x : Int) : Int := if 4 < n ∧ (x % 8) % 5 = 0 then 2 else (x % 8) % 5
def zD6 (i : Nat) (x : Int) (z : Zs) : Zs := zCS (zBM i) ((x.tdiv 8) % 3) (zAl (zA6 ((x.tdiv 64) % 3).toNat z).length x) (zA6 ((x.tdiv 64) % 3).toNat z)
def qY (ns : List Int) : Nat → Zs
 | 0 => [(⟨⟨#[109]⟩, 0, 0⟩, [])]
 | i + 1 => zD6 i (ns.getD i 0) (qY ns i)
def zFl : Zs → Zs
 | [] => []
 | x :: r => if x.2 = [] then (x.1, [.mk ⟨#[122]⟩ 0 4 []]) :: r else x :: r
def zIr (ns : List Int) : Zs := zFl (qY ns (min ns.length 12))
def qT (ns : List Int) : List Fl := zT 0 (zIr ns)
def zAF : Zs → Sh
 | [] => .mk ⟨#[]⟩ 0 0 []
 | [x] => .mk x.1.name x.1.rep x.1.kind x.2
 | x :: y :: r => zAF ((y.1, y.2 ++ [.mk x.1.name x.1.rep x.1.kind x.2]) :: r)
termination_by z => z.length
theorem zGh : ∀ (n : Nat) (z : Zs), z.length = n → z ≠ [] → flat (zAF z) = zT 0 z
 | _, [], _, h => absurd rfl h
 | _, [x], _, _ => by simp [zAF, flat, zT]
 | 0, _ :: _ :: _, h, _ => by simp at h
 | n + 1, x :: y :: r, h, _ => by
  rw [zAF, zGh n _ (by simpa using h) (by simp), zCG]
structure GZ (z : Zs) : Prop where
 pos : z ≠ []
 len : z.length ≤ 5
 hd : ∀ x ∈ z, 0 ≤ x.1.rep ∧ x.1.rep ≤ 2 ∧ x.1.kind = 0 ∧ yG x.2
 root : ∃ ks, z.getLast? = some (⟨⟨#[109]⟩, 0, 0⟩, ks)
theorem GZ.pop : ∀ (k : Nat) {z : Zs}, GZ z → GZ (zA6 k z)
 | 0, z, h => h
 | k + 1, [], h => absurd rfl h.pos
 | k + 1, [x], h => by simpa [zA6] using h
 | k + 1, x :: y :: r, h => by
  unfold zA6
  dsimp only
  split
  ·exact h
  ·rename_i hne
   refine GZ.pop k ⟨by simp, by have := h.len; simp at this ⊢; omega, fun a ha => ?_, ?_⟩
   ·rcases zLR.1 ha with rfl | ha
    ·have h1 := h.hd y (by simp)
     have h2 := h.hd x (by simp)
     refine ⟨h1.1, h1.2.1, h1.2.2.1, ?_⟩
     rw [zA3]
     refine ⟨h1.2.2.2, ?_⟩
     simp only [yG, zR]
     exact ⟨⟨h2.1, h2.2.1, by omega, by omega, fun h => absurd h2.2.2.1 h, fun _ => hne, h2.2.2.2⟩, trivial⟩
    ·exact h.hd a (by simp [ha])
   ·obtain ⟨ks, hk⟩ := h.root
    cases r with
    | nil =>
     simp at hk
     obtain rfl := hk
     exact ⟨_, rfl⟩
    | cons b r => exact ⟨ks, by simpa using hk⟩
theorem zCz (n : Nat) (x : Int) : 0 ≤ zAl n x ∧ zAl n x ≤ 4 ∧ (zAl n x = 0 → n ≤ 4) := by
 unfold zAl
 have h1 := Int.emod_nonneg (x % 8) (show (5 : Int) ≠ 0 by decide)
 have h2 := zL1 (x % 8) (show (0 : Int) < 5 by decide)
 split
 ·omega
 ·rename_i h
  refine ⟨h1, by omega, fun h0 => ?_⟩
  by_cases hn : 4 < n
  ·exact absurd ⟨hn, h0⟩ h
  ·omega
theorem GZ.add {z : Zs} (h : GZ z) (nm : ByteArray) (rep kind : Int) (h0 : 0 ≤ rep) (h2 : rep ≤ 2) (k0 : 0 ≤ kind) (k4 : kind ≤ 4) (hk : kind = 0 → z.length ≤ 4) : GZ (zCS nm rep kind z) := by
 obtain ⟨x, r, rfl⟩ : ∃ x r, z = x :: r := by cases z with | nil => exact absurd rfl h.pos | cons x r => exact ⟨x, r, rfl⟩
 unfold zCS
 dsimp only
 split
 ·rename_i h'
  refine ⟨by simp, by have := hk h'; simp at this ⊢; omega, fun a ha => ?_, ?_⟩
  ·rcases zLR.1 ha with rfl | ha
   ·exact ⟨h0, h2, rfl, by simp [yG]⟩
   ·exact h.hd a ha
  ·obtain ⟨ks, hk⟩ := h.root
   exact ⟨ks, by rw [List.getLast?_cons_cons]; exact hk⟩
 ·rename_i h'
  have h1 := h.hd x (by simp)
  refine ⟨by simp, h.len, fun a ha => ?_, ?_⟩
  ·rcases zLR.1 ha with rfl | ha
   ·refine ⟨h1.1, h1.2.1, h1.2.2.1, ?_⟩
    rw [zA3]
    refine ⟨h1.2.2.2, ?_⟩
    simp only [yG, zR]
    exact ⟨⟨h0, h2, k0, k4, fun _ => trivial, fun h => absurd h h', trivial⟩, trivial⟩
   ·exact h.hd a (by simp [ha])
  ·obtain ⟨ks, hk⟩ := h.root
   cases r with
   | nil =>
    simp at hk
    subst hk
    exact ⟨_, rfl⟩
   | cons b r => exact ⟨ks, by simpa using hk⟩
theorem GZ.step {z : Zs} (h : GZ z) (i : Nat) (x : Int) : GZ (zD6 i x z) := by
 unfold zD6
 have h1 := Int.emod_nonneg (x.tdiv 8) (show (3 : Int) ≠ 0 by decide)
 have h2 := zL1 (x.tdiv 8) (show (0 : Int) < 3 by decide)
 have h3 := zCz (zA6 ((x.tdiv 64) % 3).toNat z).length x
 exact (h.pop _).add _ _ _ h1 (by omega) h3.1 h3.2.1 h3.2.2
theorem GZ.run (ns : List Int) : ∀ i, GZ (qY ns i)
 | 0 => ⟨by simp [qY], by simp [qY], by simp [qY, yG], ⟨[], rfl⟩⟩
 | i + 1 => (GZ.run ns i).step i _
theorem GZ.fin {z : Zs} (h : GZ z) : GZ (zFl z) ∧ ∃ x r, zFl z = x :: r ∧ x.2 ≠ [] := by
 obtain ⟨x, r, rfl⟩ : ∃ x r, z = x :: r := by cases z with | nil => exact absurd rfl h.pos | cons x r => exact ⟨x, r, rfl⟩
 unfold zFl
 dsimp only
 split
 ·rename_i h'
  have := h.add ⟨#[122]⟩ 0 4 (by decide) (by decide) (by decide) (by decide) (fun h => absurd h (by decide))
  simp only [zCS, h', zLP, if_neg (show ¬ ((4 : Int) = 0) by decide)] at this
  exact ⟨this, _, _, rfl, by simp⟩
 ·rename_i h'
  exact ⟨h, x, r, rfl, h'⟩
theorem zGe : ∀ (n : Nat) (z : Zs), z.length = n → GZ z → (∃ x r, z = x :: r ∧ x.2 ≠ []) → zR (zAF z) ∧ (zAF z).kind = 0 ∧ (zAF z).rep = 0 ∧ (zAF z).name = ⟨#[109]⟩
 | _, [], _, h, _ => absurd rfl h.pos
 | _, [x], _, h, ⟨y, r, he, hne⟩ => by
  simp at he
  obtain ⟨rfl, rfl⟩ := he
  have h1 := h.hd x (by simp)
  obtain ⟨ks, hk⟩ := h.root
  simp at hk
  simp only [zAF, zR, Sh.kind, Sh.rep, Sh.name]
  exact ⟨⟨h1.1, h1.2.1, by omega, by omega, fun h => absurd h1.2.2.1 h, fun _ => hne, h1.2.2.2⟩, h1.2.2.1, by rw [hk], by rw [hk]⟩
 | 0, _ :: _ :: _, h, _, _ => by simp at h
 | n + 1, x :: y :: r, hl, h, ⟨x', r', he, hne⟩ => by
  simp at he
  obtain ⟨rfl, rfl⟩ := he
  rw [zAF]
  have hp := GZ.pop 1 h
  simp only [zA6, if_neg hne] at hp
  exact zGe n _ (by simpa using hl) hp ⟨_, _, rfl, by simp⟩
def jQ (ns : List Int) : Sh := zAF (zIr ns)
theorem zBY (ns : List Int) : qT ns = flat (jQ ns) := (zGh _ _ rfl ((GZ.run ns _).fin.1.pos)).symm
theorem zAy (ns : List Int) : zR (jQ ns) ∧ (jQ ns).kind = 0 ∧ (jQ ns).rep = 0 ∧ (jQ ns).name = ⟨#[109]⟩ := zGe _ _ rfl (GZ.run ns _).fin.1 (GZ.run ns _).fin.2
theorem zCO (a b : Nat) (z : Zs) : (zT a z).map Fl.name = (zT b z).map Fl.name := by
 cases z with
 | nil => rfl
 | cons x r => simp [zT]
theorem zDM : ∀ (k : Nat) (z : Zs), zT 0 (zA6 k z) = zT 0 z
 | 0, _ => rfl
 | k + 1, [] => rfl
 | k + 1, [x] => rfl
 | k + 1, x :: y :: r => by
  unfold zA6
  dsimp only
  split
  ·rfl
  ·rw [zDM k, zCG]
theorem zCw (ns : List Int) : ∀ i, (zT 0 (qY ns i)).map Fl.name = ⟨#[109]⟩ :: (zL4 i).map zBM
 | 0 => rfl
 | i + 1 => by
  have ih := zCw ns i
  have hp := (GZ.run ns i).pop (((ns.getD i 0).tdiv 64) % 3).toNat
  have hf := zDM (((ns.getD i 0).tdiv 64) % 3).toNat (qY ns i)
  simp only [qY, zD6]
  generalize zA6 (((ns.getD i 0).tdiv 64) % 3).toNat (qY ns i) = z at *
  obtain ⟨x, r, rfl⟩ : ∃ x r, z = x :: r := by cases z with | nil => exact absurd rfl hp.pos | cons x r => exact ⟨x, r, rfl⟩
  rw [zAO, List.map_append, zCO 1 0, hf, ih, List.range_succ]
  simp
theorem zDf (ns : List Int) (i : Nat) : (zT 0 (qY ns i)).length = i + 1 := by
 have := congrArg List.length (zCw ns i)
 simpa using this
theorem zBW (ns : List Int) : (qT ns).map Fl.name = ⟨#[109]⟩ :: (zL4 (min ns.length 12)).map zBM ∨ (qT ns).map Fl.name = ⟨#[109]⟩ :: (zL4 (min ns.length 12)).map zBM ++ [⟨#[122]⟩] := by
 have hn := zCw ns (min ns.length 12)
 have hp := GZ.run ns (min ns.length 12)
 unfold qT zIr
 generalize qY ns (min ns.length 12) = z at *
 obtain ⟨x, r, rfl⟩ : ∃ x r, z = x :: r := by cases z with | nil => exact absurd rfl hp.pos | cons x r => exact ⟨x, r, rfl⟩
 unfold zFl
 dsimp only
 split
 ·rename_i h'
  right
  have h2 := zAO ⟨#[122]⟩ 0 4 x r
  simp only [zCS, h', zLP, if_neg (show ¬ ((4 : Int) = 0) by decide)] at h2
  rw [h2, List.map_append, zCO 1 0, hn]
  rfl
 ·exact .inl hn
theorem zDN (ns : List Int) : 1 ≤ (qT ns).length ∧ (qT ns).length ≤ 14 := by
 rcases zBW ns with h | h <;> · have := congrArg List.length h; simp at this; omega
end Go.Proofs.Ytjbkjfefjhbolaa
namespace Go.Shr
open Go.RowKit
theorem zGl {P : Program} {k : Nat} {args : Array Value} {W : World} {post : Ending → World → Prop} (h : ∀ W', W' = W → Calls P k args W' post) : Calls P k args W post := h W rfl
mutual
def TrG (ok : Nat → Prop) (w : World) : Tr → List Value → Prop
 | .mk n s ks, cs => ∃ a m cap xs, cs = [.int .i64 n, .string s, .slice a m cap] ∧ s.size ≤ maxLen ∧ Sl ok w 1 a m cap xs ∧ yO ok w ks xs
def yO (ok : Nat → Prop) (w : World) : List (List Tr) → List Value → Prop
 | [], xs => xs = []
 | l :: r, xs => ∃ a m cap ys xr, xs = .slice a m cap :: xr ∧ m = l.length ∧ Sl ok w 3 a m cap ys ∧ zZ ok w l ys ∧ yO ok w r xr
def zZ (ok : Nat → Prop) (w : World) : List Tr → List Value → Prop
 | [], ys => ys = []
 | t :: r, ys => ∃ c0 c1 c2 yr, ys = c0 :: c1 :: c2 :: yr ∧ TrG ok w t [c0, c1, c2] ∧ zZ ok w r yr
end
section
variable {ok ok' : Nat → Prop} {w w' : World}
mutual
theorem TrG.to (h : ∀ size a n cap xs, Sl ok w size a n cap xs → 0 < size → Sl ok' w' size a n cap xs) : ∀ (t : Tr) (cs : List Value), TrG ok w t cs → TrG ok' w' t cs
 | .mk n s ks, cs, h0 => by
  simp only [TrG] at h0 ⊢
  obtain ⟨a, m, cap, xs, h1, h2, h3, h4⟩ := h0
  exact ⟨a, m, cap, xs, h1, h2, h _ _ _ _ _ h3 (by decide), yO.to h ks xs h4⟩
theorem yO.to (h : ∀ size a n cap xs, Sl ok w size a n cap xs → 0 < size → Sl ok' w' size a n cap xs) : ∀ (ks : List (List Tr)) (xs : List Value), yO ok w ks xs → yO ok' w' ks xs
 | [], xs, h0 => by simpa only [yO] using h0
 | l :: r, xs, h0 => by
  simp only [yO] at h0 ⊢
  obtain ⟨a, m, cap, ys, xr, h1, h2, h3, h4, h5⟩ := h0
  exact ⟨a, m, cap, ys, xr, h1, h2, h _ _ _ _ _ h3 (by decide), zZ.to h l ys h4, yO.to h r xr h5⟩
theorem zZ.to (h : ∀ size a n cap xs, Sl ok w size a n cap xs → 0 < size → Sl ok' w' size a n cap xs) : ∀ (l : List Tr) (ys : List Value), zZ ok w l ys → zZ ok' w' l ys
 | [], ys, h0 => by simpa only [zZ] using h0
 | t :: r, ys, h0 => by
  simp only [zZ] at h0 ⊢
  obtain ⟨c0, c1, c2, yr, h1, h2, h3⟩ := h0
  exact ⟨c0, c1, c2, yr, h1, TrG.to h t _ h2, zZ.to h r yr h3⟩
end
theorem Sl.go {S : Nat → Prop} (hc : Chg S w w') (hn : ∀ k, k < w.heap.size → ok k → ¬ S k ∧ ok' k) {size : Nat} {a : Option Addr} {n cap : Nat} {xs : List Value} (h : Sl ok w size a n cap xs) (hsz : 0 < size) : Sl ok' w' size a n cap xs := by
 have h2 := h.mono (ok' := fun k => k < w.heap.size ∧ ok k) (fun k h1 h2 => ⟨h1, h2⟩) hsz
 refine ⟨h.len, h.le, h.max, h2.row.imp id fun ⟨b, off, h3, h4, h5⟩ => ?_⟩
 have h6 := hn b h4.1 h4.2
 exact ⟨b, off, h3, h6.2, fun j u hj => hc.keep (h5 j u hj) h6.1⟩
theorem TrG.go {S : Nat → Prop} (hc : Chg S w w') (hn : ∀ k, k < w.heap.size → ok k → ¬ S k ∧ ok' k) {t : Tr} {cs : List Value} (h : TrG ok w t cs) : TrG ok' w' t cs := TrG.to (fun _ _ _ _ _ h hs => Sl.go hc hn h hs) t cs h
theorem yO.go {S : Nat → Prop} (hc : Chg S w w') (hn : ∀ k, k < w.heap.size → ok k → ¬ S k ∧ ok' k) {t : List (List Tr)} {cs : List Value} (h : yO ok w t cs) : yO ok' w' t cs := yO.to (fun _ _ _ _ _ h hs => Sl.go hc hn h hs) t cs h
theorem zZ.go {S : Nat → Prop} (hc : Chg S w w') (hn : ∀ k, k < w.heap.size → ok k → ¬ S k ∧ ok' k) {t : List Tr} {cs : List Value} (h : zZ ok w t cs) : zZ ok' w' t cs := zZ.to (fun _ _ _ _ _ h hs => Sl.go hc hn h hs) t cs h
end
mutual
theorem TrG.at' {ok : Nat → Prop} {w : World} (hk : ∀ k, k < w.heap.size → ok k → k < w.heap.size) : ∀ (t : Tr) (cs : List Value), TrG ok w t cs → xS w t cs
 | .mk n s ks, cs, h0 => by
  simp only [TrG, xS] at h0 ⊢
  obtain ⟨a, m, cap, xs, h1, h2, h3, h4⟩ := h0
  exact ⟨a, m, cap, xs, h1, h2, h3.mono hk (by decide), yO.at' hk ks xs h4⟩
theorem yO.at' {ok : Nat → Prop} {w : World} (hk : ∀ k, k < w.heap.size → ok k → k < w.heap.size) : ∀ (ks : List (List Tr)) (xs : List Value), yO ok w ks xs → xO w ks xs
 | [], xs, h0 => by simpa only [yO, xO] using h0
 | l :: r, xs, h0 => by
  simp only [yO, xO] at h0 ⊢
  obtain ⟨a, m, cap, ys, xr, h1, h2, h3, h4, h5⟩ := h0
  exact ⟨a, m, cap, ys, xr, h1, h2, h3.mono hk (by decide), zZ.at' hk l ys h4, yO.at' hk r xr h5⟩
theorem zZ.at' {ok : Nat → Prop} {w : World} (hk : ∀ k, k < w.heap.size → ok k → k < w.heap.size) : ∀ (l : List Tr) (ys : List Value), zZ ok w l ys → yN w l ys
 | [], ys, h0 => by simpa only [zZ, yN] using h0
 | t :: r, ys, h0 => by
  simp only [zZ, yN] at h0 ⊢
  obtain ⟨c0, c1, c2, yr, h1, h2, h3⟩ := h0
  exact ⟨c0, c1, c2, yr, h1, TrG.at' hk t _ h2, zZ.at' hk r yr h3⟩
end
theorem TrG.at {ok : Nat → Prop} {w : World} {t : Tr} {cs : List Value} (h : TrG ok w t cs) : xS w t cs := TrG.at' (fun _ h _ => h) t cs h
theorem zZ.at {ok : Nat → Prop} {w : World} {t : List Tr} {cs : List Value} (h : zZ ok w t cs) : yN w t cs := zZ.at' (fun _ h _ => h) t cs h
mutual
theorem xS.g {w : World} : ∀ (t : Tr) (cs : List Value), xS w t cs → TrG (fun b => b < w.heap.size) w t cs
 | .mk n s ks, cs, h0 => by
  simp only [TrG, xS] at h0 ⊢
  obtain ⟨a, m, cap, xs, h1, h2, h3, h4⟩ := h0
  exact ⟨a, m, cap, xs, h1, h2, h3, xO.g ks xs h4⟩
theorem xO.g {w : World} : ∀ (ks : List (List Tr)) (xs : List Value), xO w ks xs → yO (fun b => b < w.heap.size) w ks xs
 | [], xs, h0 => by simpa only [yO, xO] using h0
 | l :: r, xs, h0 => by
  simp only [yO, xO] at h0 ⊢
  obtain ⟨a, m, cap, ys, xr, h1, h2, h3, h4, h5⟩ := h0
  exact ⟨a, m, cap, ys, xr, h1, h2, h3, yN.g l ys h4, xO.g r xr h5⟩
theorem yN.g {w : World} : ∀ (l : List Tr) (ys : List Value), yN w l ys → zZ (fun b => b < w.heap.size) w l ys
 | [], ys, h0 => by simpa only [zZ, yN] using h0
 | t :: r, ys, h0 => by
  simp only [zZ, yN] at h0 ⊢
  obtain ⟨c0, c1, c2, yr, h1, h2, h3⟩ := h0
  exact ⟨c0, c1, c2, yr, h1, xS.g t _ h2, yN.g r yr h3⟩
end
section
variable {ok : Nat → Prop} {w : World}
theorem zZ.snoc {t : Tr} {c0 c1 c2 : Value} (ht : TrG ok w t [c0, c1, c2]) : ∀ {l : List Tr} {ys : List Value}, zZ ok w l ys → zZ ok w (l ++ [t]) (ys ++ [c0, c1, c2])
 | [], ys, h => by
  simp only [zZ] at h; subst h
  simp only [zLP, zZ]
  exact ⟨c0, c1, c2, [], rfl, ht, rfl⟩
 | x :: r, ys, h => by
  simp only [zZ] at h
  obtain ⟨d0, d1, d2, yr, rfl, h2, h3⟩ := h
  simp only [zLQ, zZ]
  exact ⟨d0, d1, d2, _, rfl, h2, zZ.snoc ht h3⟩
theorem yO.snoc {l : List Tr} {a : Option Addr} {m cap : Nat} {ys : List Value} (hm : m = l.length) (hs : Sl ok w 3 a m cap ys) (hr : zZ ok w l ys) : ∀ {ks : List (List Tr)} {xs : List Value}, yO ok w ks xs → yO ok w (ks ++ [l]) (xs ++ [.slice a m cap])
 | [], xs, h => by
  simp only [yO] at h; subst h
  simp only [zLP, yO]
  exact ⟨a, m, cap, ys, [], rfl, hm, hs, hr, rfl⟩
 | x :: r, xs, h => by
  simp only [yO] at h
  obtain ⟨b, n, c, zs, xr, rfl, h2, h3, h4, h5⟩ := h
  simp only [zLQ, yO]
  exact ⟨b, n, c, zs, _, rfl, h2, h3, h4, yO.snoc hm hs hr h5⟩
theorem yO.len : ∀ {ks : List (List Tr)} {xs : List Value}, yO ok w ks xs → xs.length = ks.length
 | [], xs, h => by simp only [yO] at h; subst h; rfl
 | l :: r, xs, h => by
  simp only [yO] at h
  obtain ⟨a, m, cap, ys, xr, rfl, _, _, _, h5⟩ := h
  simp [yO.len h5]
theorem zZ.len : ∀ {l : List Tr} {ys : List Value}, zZ ok w l ys → ys.length = l.length * 3
 | [], xs, h => by simp only [zZ] at h; subst h; rfl
 | t :: r, xs, h => by
  simp only [zZ] at h
  obtain ⟨c0, c1, c2, yr, rfl, _, h3⟩ := h
  have := zZ.len h3
  simp; omega
theorem zZ.one' : ∀ {l : List Tr} {ys : List Value}, zZ ok w l ys → ∀ u ∈ ys, u.oneCell' = true
 | [], ys, h => by simp only [zZ] at h; subst h; simp
 | t :: r, ys, h => by
  simp only [zZ] at h
  obtain ⟨c0, c1, c2, yr, rfl, h2, h3⟩ := h
  obtain ⟨n, s, ks⟩ := t
  simp only [TrG] at h2
  obtain ⟨a, m, cap, xs, hc, _⟩ := h2
  simp at hc
  obtain ⟨rfl, rfl, rfl⟩ := hc
  intro u hu
  simp only [zLR] at hu
  rcases hu with rfl | rfl | rfl | hu
  ·rfl
  ·rfl
  ·rfl
  ·exact zZ.one' h3 u hu
theorem yO.one' : ∀ {l : List (List Tr)} {ys : List Value}, yO ok w l ys → ∀ u ∈ ys, u.oneCell' = true
 | [], ys, h => by simp only [yO] at h; subst h; simp
 | t :: r, ys, h => by
  simp only [yO] at h
  obtain ⟨a, m, cap, zs, xr, rfl, _, _, _, h3⟩ := h
  intro u hu
  simp only [zLR] at hu
  rcases hu with rfl | hu
  ·rfl
  ·exact yO.one' h3 u hu
theorem TrG.mk' {t : Tr} {a : Option Addr} {m cap : Nat} {xs : List Value} (hs : t.s.size ≤ maxLen) (h : Sl ok w 1 a m cap xs) (hk : yO ok w t.kids xs) : TrG ok w t [.int .i64 t.n, .string t.s, .slice a m cap] := by
 obtain ⟨n, s, ks⟩ := t
 simp only [TrG]
 exact ⟨a, m, cap, xs, rfl, hs, h, hk⟩
theorem TrG.leaf {n : Int} {s : ByteArray} (hs : s.size ≤ maxLen) : TrG ok w (.mk n s []) [.int .i64 n, .string s, .slice none 0 0] := by
 simp only [TrG, yO]
 exact ⟨none, 0, 0, [], rfl, hs, Sl.nil _ _ _ _, rfl⟩
end
structure jP (e : TypeId) (B : Nat) (w : World) (a : Option Addr) (n cap : Nat) (l : List Tr) (ys : List Value) : Prop where
 own : Own B w e 3 a n cap ys
 row : zZ (fun b => B ≤ b ∧ ¬ blk a b) w l ys
 lt : ∀ b, blk a b → b < w.heap.size
 len : n = l.length
structure zB9 (e : TypeId) (B : Nat) (w : World) (a : Option Addr) (n cap : Nat) (ks : List (List Tr)) (xs : List Value) : Prop where
 own : Own B w e 1 a n cap xs
 kid : yO (fun b => B ≤ b ∧ ¬ blk a b) w ks xs
 lt : ∀ b, blk a b → b < w.heap.size
 len : n = ks.length
section
variable {e : TypeId} {B : Nat} {w w' w3 : World} {a a3 : Option Addr} {n cap cap3 : Nat}
theorem jP.nil (e : TypeId) (B : Nat) (w : World) : jP e B w none 0 0 [] [] := ⟨Own.nil _ _ _ _, by simp only [zZ], (fun b ⟨_, _, h⟩ => by cases h), rfl⟩
theorem zB9.nil (e : TypeId) (B : Nat) (w : World) : zB9 e B w none 0 0 [] [] := ⟨Own.nil _ _ _ _, by simp only [yO], (fun b ⟨_, _, h⟩ => by cases h), rfl⟩
theorem Own.blt' {size : Nat} {xs : List Value} (h : Own B w e size a n cap xs) (hn : 0 < n) {k : Nat} (hk : blk a k) : B ≤ k ∧ k < w.heap.size := by
 obtain ⟨g, rfl, h1, h2, _⟩ := h.pos hn
 obtain ⟨_, _, e⟩ := hk
 cases e
 exact ⟨h1, h2⟩
theorem Own.chg' {size : Nat} {xs : List Value} {S : Nat → Prop} (h : Own B w e size a n cap xs) (hc : Chg S w w') (hn : ∀ k, B ≤ k → ¬ S k) : Own B w' e size a n cap xs := by
 refine ⟨h.len, h.le, h.max, h.row.imp id ?_⟩
 rintro ⟨g, cur, rfl, hB, hg, hs, ht⟩
 exact ⟨g, cur, rfl, hB, (hc.block g (Array.getElem?_eq_some_iff.1 hg).1 (hn g hB)).trans hg, hs, ht⟩
theorem jP.chg {S : Nat → Prop} {l : List Tr} {ys : List Value} (h : jP e B w a n cap l ys) (hc : Chg S w w') (hn : ∀ k, B ≤ k → ¬ S k) : jP e B w' a n cap l ys :=
 ⟨h.own.chg' hc hn, h.row.go hc (fun k _ h => ⟨hn k h.1, h⟩), fun b hb => zL2 (h.lt b hb) hc.size, h.len⟩
theorem zB9.chg {S : Nat → Prop} {l : List (List Tr)} {ys : List Value} (h : zB9 e B w a n cap l ys) (hc : Chg S w w') (hn : ∀ k, B ≤ k → ¬ S k) : zB9 e B w' a n cap l ys :=
 ⟨h.own.chg' hc hn, h.kid.go hc (fun k _ h => ⟨hn k h.1, h⟩), fun b hb => zL2 (h.lt b hb) hc.size, h.len⟩
theorem Sl.grown (hlt : ∀ b, blk a b → b < w.heap.size) (hc : Chg (fun k => blk a k ∧ B ≤ k ∧ 0 < cap) w w3) (hn : ∀ k, blk a3 k → blk a k ∨ w.heap.size ≤ k) :
  ∀ k, k < w.heap.size → (B ≤ k ∧ ¬ blk a k) → ¬ (blk a k ∧ B ≤ k ∧ 0 < cap) ∧ (B ≤ k ∧ ¬ blk a3 k) := fun k hk h =>
 ⟨fun h2 => h.2 h2.1, h.1, fun h2 => by rcases hn k h2 with h3 | h3; exact h.2 h3; omega⟩
theorem jP.push {l : List Tr} {ys : List Value} {t : Tr} {c0 c1 c2 : Value} (h : jP e B w a n cap l ys) (ht : TrG (fun b => B ≤ b ∧ ¬ blk a b) w t [c0, c1, c2])
  (ho : Own B w3 e 3 a3 (n + 1) cap3 (ys ++ [c0, c1, c2])) (hc : Chg (fun k => blk a k ∧ B ≤ k ∧ 0 < cap) w w3) (hn : ∀ k, blk a3 k → blk a k ∨ w.heap.size ≤ k) : jP e B w3 a3 (n + 1) cap3 (l ++ [t]) (ys ++ [c0, c1, c2]) := by
 have hg := Sl.grown h.lt hc hn
 exact ⟨ho, zZ.snoc (ht.go hc hg) (h.row.go hc hg), fun b hb => (ho.blt' (by omega) hb).2, by simp [h.len]⟩
theorem zB9.push {ks : List (List Tr)} {xs : List Value} {l : List Tr} {al : Option Addr} {m cl : Nat} {ys : List Value} (h : zB9 e B w a n cap ks xs) (hm : m = l.length) (hs : Sl (fun b => B ≤ b ∧ ¬ blk a b) w 3 al m cl ys) (hr : zZ (fun b => B ≤ b ∧ ¬ blk a b) w l ys)
  (ho : Own B w3 e 1 a3 (n + 1) cap3 (xs ++ [.slice al m cl])) (hc : Chg (fun k => blk a k ∧ B ≤ k ∧ 0 < cap) w w3) (hn : ∀ k, blk a3 k → blk a k ∨ w.heap.size ≤ k) : zB9 e B w3 a3 (n + 1) cap3 (ks ++ [l]) (xs ++ [.slice al m cl]) := by
 have hg := Sl.grown h.lt hc hn
 exact ⟨ho, yO.snoc hm (hs.go hc hg (by decide)) (hr.go hc hg) (h.kid.go hc hg), fun b hb => (ho.blt' (by omega) hb).2, by simp [h.len]⟩
theorem jP.sl {l : List Tr} {ys : List Value} (h : jP e B w a n cap l ys) : Sl (fun b => B ≤ b) w 3 a n cap ys ∧ zZ (fun b => B ≤ b) w l ys :=
 ⟨h.own.sl.mono (fun k _ h => h.1) (by decide), h.row.go (Chg.refl (fun _ => False) w) (fun k _ h => ⟨fun h => h, h.1⟩)⟩
theorem zB9.sl {ks : List (List Tr)} {xs : List Value} (h : zB9 e B w a n cap ks xs) : Sl (fun b => B ≤ b) w 1 a n cap xs ∧ yO (fun b => B ≤ b) w ks xs :=
 ⟨h.own.sl.mono (fun k _ h => h.1) (by decide), h.kid.go (Chg.refl (fun _ => False) w) (fun k _ h => ⟨fun h => h, h.1⟩)⟩
end
end Go.Shr
namespace Go.Proofs.Ytjbkjfefjhbolaa
open Go.RowKit Go.Shr
def yC (ns : List Int) (at' : Nat) : Nat := if at' < ns.length then at' + 1 else at'
def abc : ByteArray := ⟨#[97, 98, 99, 97, 98, 99, 97, 98, 99, 97, 98, 99]⟩
def mkX (f : Nat → Tr × Nat) : Nat → Nat → List Tr × Nat
 | 0, k => ([], k)
 | m + 1, k => ((f k).1 :: (mkX f m (f k).2).1, (mkX f m (f k).2).2)
def qG (ns : List Int) (rep : Int) (k : Nat) : Nat × Nat :=
 if rep = 1 then (((ns.getD k 0) % 2).toNat, yC ns k) else if rep = 2 then (((ns.getD k 0) % 4).toNat, yC ns k) else (1, k)
mutual
def mkT (ns : List Int) : Sh → Nat → Tr × Nat
 | .mk _ _ kind ks, k =>
  if kind = 1 then (.mk ((ns.getD k 0) % 2) ⟨#[]⟩ [], yC ns k)
  else if kind = 2 then (.mk ((ns.getD k 0) % 300 - 100) ⟨#[]⟩ [], yC ns k)
  else if kind = 3 then (.mk (ns.getD k 0) ⟨#[]⟩ [], yC ns k)
  else if kind = 4 then (.mk 0 (abc.extract 0 ((ns.getD k 0) % 9).toNat) [], yC ns k)
  else (.mk 0 ⟨#[]⟩ (mkK ns ks (yC ns k)).1, (mkK ns ks (yC ns k)).2)
def mkK (ns : List Int) : List Sh → Nat → List (List Tr) × Nat
 | [], k => ([], k)
 | s :: r, k =>
  ((mkX (mkT ns s) (qG ns s.rep k).1 (qG ns s.rep k).2).1 :: (mkK ns r (mkX (mkT ns s) (qG ns s.rep k).1 (qG ns s.rep k).2).2).1,
   (mkK ns r (mkX (mkT ns s) (qG ns s.rep k).1 (qG ns s.rep k).2).2).2)
end
def zBX (s : Sh) (ns : List Int) : Tr := (mkT ns s 0).1
theorem zCe (f : Nat → Tr × Nat) : ∀ (m k : Nat), mkX f (m + 1) k = ((mkX f m k).1 ++ [(f (mkX f m k).2).1], (f (mkX f m k).2).2)
 | 0, k => rfl
 | m + 1, k => by
  have h := zCe f m (f k).2
  rw [mkX, h]
  simp [mkX]
theorem zA8 (ns : List Int) : ∀ (a b : List Sh) (k : Nat), mkK ns (a ++ b) k = ((mkK ns a k).1 ++ (mkK ns b (mkK ns a k).2).1, (mkK ns b (mkK ns a k).2).2)
 | [], b, k => by simp [mkK]
 | s :: a, b, k => by simp only [zLQ, mkK, zA8 ns a b]
def rest (P : List Int) (v : Int) (i : Nat) : List Int := kf i (P.drop i) v
theorem wD {P : List Int} {v : Nat} (h : ∀ (j : Nat) (hj : j < P.length), P[j] < (j : Int)) : rest P v (v + 1) = kf 0 P v := by
 have e : P = P.take (v + 1) ++ P.drop (v + 1) := (List.take_append_drop _ _).symm
 conv => rhs; rw [e]
 rw [zAm, zCk]
 ·simp only [zLP, rest, List.length_take, zLZ]
  by_cases hv : v + 1 ≤ P.length
  ·rw [Nat.min_eq_left hv]
  ·rw [zL0 (by omega)]; rfl
 ·intro x hx hxv
  obtain ⟨j, hj, rfl⟩ := List.getElem_of_mem hx
  rw [List.getElem_take] at hxv
  simp at hj
  have := h j (by omega)
  omega
theorem zAU {P : List Int} {v : Int} {i : Nat} (h : i < P.length) (e : P[i] = v) : rest P v i = (i : Int) :: rest P v (i + 1) := by
 unfold rest
 rw [zLY h, kf, if_pos e]
theorem zBK {P : List Int} {v : Int} {i : Nat} (h : i < P.length) (e : P[i] ≠ v) : rest P v i = rest P v (i + 1) := by
 unfold rest
 rw [zLY h, kf, if_neg e]
theorem zAV {P : List Int} {v : Int} {i : Nat} (h : P.length ≤ i) : rest P v i = [] := by
 unfold rest
 rw [zL0 h]; rfl
theorem zAK {o : Nat} {ks : List Sh} {i : Int} {r : List Int} (h : yX o ks = i :: r) : ∃ s q, ks = s :: q ∧ i = (o : Int) ∧ r = yX (o + s.size) q := by
 cases ks with
 | nil => cases h
 | cons s q => simp only [yX] at h; injection h with h1 h2; exact ⟨s, q, rfl, h1.symm, h2.symm⟩
theorem zBv {o : Nat} {ks : List Sh} (h : yX o ks = []) : ks = [] := by
 cases ks with
 | nil => rfl
 | cons s q => simp [yX] at h
theorem jU : ∀ (o : Nat) (ks : List Sh), (yX o ks).length = ks.length
 | _, [] => rfl
 | o, s :: q => by simp [yX, jU _ q]
end Go.Proofs.Ytjbkjfefjhbolaa
