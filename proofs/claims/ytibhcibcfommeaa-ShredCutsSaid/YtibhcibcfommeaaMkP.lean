/-
 Plain: shapes of schemas: the fields of a shape, one behind the other; which fields are in which. Plain: schemas made of raw numbers.
-/
import Derived.Test.YtibhcibcfommeaaSch3
import Derived.Test.YtibhcibcfommeaaFitP
set_option linter.unusedSimpArgs false
namespace Go.Proofs.Ytibhcibcfommeaa
open Go.RowKit Go.Shr
inductive Sh where
 | mk (name : ByteArray) (rep kind : Int) (kids : List Sh)
def Sh.name : Sh → ByteArray | .mk n _ _ _ => n
def Sh.rep : Sh → Int | .mk _ r _ _ => r
def Sh.kind : Sh → Int | .mk _ _ k _ => k
def Sh.kids : Sh → List Sh | .mk _ _ _ ks => ks
mutual
def Sh.size : Sh → Nat
 | .mk _ _ _ ks => 1 + shSizes ks
def shSizes : List Sh → Nat
 | [] => 0
 | s :: r => s.size + shSizes r
end
mutual
/-- A shape's fields. -/
def flat : Sh → List Fl
 | .mk nm r k ks => ⟨nm, r, k, ks.length⟩ :: flatL ks
def flatL : List Sh → List Fl
 | [] => []
 | s :: r => flat s ++ flatL r
end
mutual
/-- Each field's group. -/
def parsS (g : Int) (i : Nat) : Sh → List Int
 | .mk _ _ _ ks => g :: parsL i (i + 1) ks
def parsL (g : Int) (i : Nat) : List Sh → List Int
 | [] => []
 | s :: r => parsS g i s ++ parsL g (i + s.size) r
end
/-- The places of shapes that stand one behind the other. -/
def offs : Nat → List Sh → List Int
 | _, [] => []
 | i, s :: r => (i : Int) :: offs (i + s.size) r
mutual
/-- A shape as schemas have them. -/
def GoodS : Sh → Prop
 | .mk _ r k ks => 0 ≤ r ∧ r ≤ 2 ∧ 0 ≤ k ∧ k ≤ 4 ∧ (k ≠ 0 → ks = []) ∧ (k = 0 → ks ≠ []) ∧ GoodL ks
def GoodL : List Sh → Prop
 | [] => True
 | s :: r => GoodS s ∧ GoodL r
end
theorem GoodL_append : ∀ (a b : List Sh), GoodL (a ++ b) ↔ GoodL a ∧ GoodL b
 | [], b => by simp [GoodL]
 | s :: a, b => by simp [GoodL, GoodL_append a b, and_assoc]
theorem GoodL_mem : ∀ {ks : List Sh} {s : Sh}, GoodL ks → s ∈ ks → GoodS s
 | x :: ks, s, h, hm => by
  simp only [GoodL] at h
  rcases List.mem_cons.1 hm with rfl | hm
  ·exact h.1
  ·exact GoodL_mem h.2 hm
theorem flatL_append : ∀ (a b : List Sh), flatL (a ++ b) = flatL a ++ flatL b
 | [], b => by simp [flatL]
 | s :: a, b => by simp [flatL, flatL_append a b]
theorem shSizes_append : ∀ (a b : List Sh), shSizes (a ++ b) = shSizes a + shSizes b
 | [], b => by simp [shSizes]
 | s :: a, b => by simp [shSizes, shSizes_append a b]; omega
mutual
theorem flat_length : ∀ s : Sh, (flat s).length = s.size
 | .mk _ _ _ ks => by simp only [flat, List.length_cons, Sh.size, flatL_length ks]; omega
theorem flatL_length : ∀ ks : List Sh, (flatL ks).length = shSizes ks
 | [] => rfl
 | s :: r => by simp only [flatL, List.length_append, shSizes, flat_length s, flatL_length r]
end
mutual
theorem parsS_length : ∀ (s : Sh) (g : Int) (i : Nat), (parsS g i s).length = s.size
 | .mk _ _ _ ks, g, i => by simp only [parsS, List.length_cons, Sh.size, parsL_length ks]; omega
theorem parsL_length : ∀ (ks : List Sh) (g : Int) (i : Nat), (parsL g i ks).length = shSizes ks
 | [], _, _ => rfl
 | s :: r, g, i => by simp only [parsL, List.length_append, shSizes, parsS_length s, parsL_length r]
end
mutual
theorem parsS_mem : ∀ (s : Sh) (g : Int) (i : Nat) (x : Int), x ∈ parsS g i s → x = g ∨ ((i : Int) ≤ x ∧ x < (i : Int) + s.size)
 | .mk _ _ _ ks, g, i, x, h => by
  simp only [parsS, List.mem_cons] at h
  rcases h with h | h
  ·exact .inl h
  ·have := parsL_mem ks i (i + 1) x h
   simp only [Sh.size]; omega
theorem parsL_mem : ∀ (ks : List Sh) (g : Int) (i : Nat) (x : Int), x ∈ parsL g i ks → x = g ∨ ((i : Int) ≤ x ∧ x < (i : Int) + shSizes ks)
 | [], _, _, _, h => by simp [parsL] at h
 | s :: r, g, i, x, h => by
  simp only [parsL, List.mem_append] at h
  rcases h with h | h
  ·have := parsS_mem s g i x h; simp only [shSizes]; omega
  ·have := parsL_mem r g (i + s.size) x h; simp only [shSizes]; omega
end
theorem parF_cong (i : Nat) {st st2 : Stk} (l : List Fl) (h : popS st = popS st2) : parF i st l = parF i st2 l := by
 cases l with
 | nil => rfl
 | cons f l => simp only [parF, parS, nextS, h]
mutual
theorem par_flat : ∀ (s : Sh) (_ : GoodS s) (i : Nat) (g c : Int) (st : Stk) (rest : List Fl), 0 < c → parF i ((g, c) :: st) (flat s ++ rest) = parsS g i s ++ parF (i + s.size) ((g, c - 1) :: st) rest
 | .mk nm r k ks, hg, i, g, c, st, rest, hc => by
  simp only [GoodS] at hg
  obtain ⟨_, _, _, _, h1, h2, h3⟩ := hg
  have hp : popS ((g, c) :: st) = (g, c) :: st := by simp [popS]; omega
  simp only [flat, List.cons_append, parF, parS, nextS, hp, parsS, Sh.size]
  congr 1
  by_cases hk : k = 0
  ·rw [if_pos hk, parL_flat ks h3 (i + 1) i ks.length ((g, c - 1) :: st) rest (Int.le_refl _)]
   congr 1
   rw [Nat.add_assoc]
   exact parF_cong _ _ (by simp [popS])
  ·rw [if_neg hk, h1 hk]
   simp only [flatL, parsL, shSizes, List.nil_append]
theorem parL_flat : ∀ (ks : List Sh) (_ : GoodL ks) (i : Nat) (g c : Int) (st : Stk) (rest : List Fl), (ks.length : Int) ≤ c → parF i ((g, c) :: st) (flatL ks ++ rest) = parsL g i ks ++ parF (i + shSizes ks) ((g, c - ks.length) :: st) rest
 | [], _, i, g, c, st, rest, _ => by simp [flatL, parsL, shSizes]
 | s :: r, hg, i, g, c, st, rest, hc => by
  simp only [GoodL] at hg
  simp only [List.length_cons] at hc ⊢
  simp only [flatL, List.append_assoc, parsL, shSizes]
  rw [par_flat s hg.1 i g c st _ (by omega), parL_flat r hg.2 (i + s.size) g (c - 1) st rest (by omega)]
  rw [Nat.add_assoc]
  congr 4
  congr 1
  push_cast
  omega
end
theorem par_root (s : Sh) (hg : GoodS s) (hk : s.kind = 0) : par (flat s) = parsS (-1) 0 s := by
 obtain ⟨nm, r, k, ks⟩ := s
 simp only [Sh.kind] at hk
 subst hk
 simp only [GoodS] at hg
 have h := parL_flat ks hg.2.2.2.2.2.2 1 0 ks.length [] [] (Int.le_refl _)
 simp only [List.append_nil] at h
 simp only [par, flat, parF, parS, nextS, popS, parsS, if_true, Nat.zero_add]
 congr 1
 rw [show ((0 : Nat) : Int) = 0 from rfl, h]
 simp [parF]
/-- The places from one on at which v stands. -/
def kf : Nat → List Int → Int → List Int
 | _, [], _ => []
 | o, x :: p, v => if x = v then (o : Int) :: kf (o + 1) p v else kf (o + 1) p v
theorem kf_append : ∀ (a b : List Int) (o : Nat) (v : Int), kf o (a ++ b) v = kf o a v ++ kf (o + a.length) b v
 | [], b, o, v => by simp [kf]
 | x :: a, b, o, v => by
  simp only [List.cons_append, kf, kf_append a b, List.length_cons]
  rw [show o + 1 + a.length = o + (a.length + 1) by omega]
  split <;> simp
theorem kf_none : ∀ (p : List Int) (o : Nat) (v : Int), (∀ x ∈ p, x ≠ v) → kf o p v = []
 | [], _, _, _ => rfl
 | x :: p, o, v, h => by
  rw [kf, if_neg (h x (List.mem_cons_self ..))]
  exact kf_none p _ v fun y hy => h y (List.mem_cons_of_mem _ hy)
theorem kidsOf_kf (P : List Int) (v : Int) : kidsOf P v = kf 0 P v := by
 suffices h : ∀ n (P : List Int), P.length = n → kidsOf P v = kf 0 P v from h _ P rfl
 intro n
 induction n with
 | zero => intro P h; rw [List.eq_nil_of_length_eq_zero h]; rfl
 | succ n ih =>
  intro P h
  have hne : P ≠ [] := by intro e; rw [e] at h; simp at h
  obtain ⟨Q, x, rfl⟩ : ∃ Q x, P = Q ++ [x] := ⟨P.dropLast, P.getLast hne, (List.dropLast_concat_getLast hne).symm⟩
  have hl : Q.length = n := by simpa using h
  rw [kidsOf_snoc, ih Q hl, kf_append, kf, kf, Nat.zero_add]
theorem kf_pars : ∀ (ks : List Sh) (g : Int) (i : Nat), g < i → kf i (parsL g i ks) g = offs i ks
 | [], _, _, _ => rfl
 | .mk nm r k q :: ks, g, i, h => by
  simp only [parsL, offs]
  rw [kf_append, parsS_length, kf_pars ks g _ (by omega)]
  simp only [parsS, kf, if_true]
  rw [kf_none]
  ·rfl
  ·intro x hx e
   have := parsL_mem q i (i + 1) x hx
   omega
mutual
/-- At a place of a row of fields there is a shape. -/
def Ix (l : List Fl) (K : Int → List Int) : Nat → Sh → Prop
 | i, .mk nm r k ks => l[i]? = some ⟨nm, r, k, ks.length⟩ ∧ K i = offs (i + 1) ks ∧ IxL l K (i + 1) ks
def IxL (l : List Fl) (K : Int → List Int) : Nat → List Sh → Prop
 | _, [] => True
 | i, s :: r => Ix l K i s ∧ IxL l K (i + s.size) r
end
mutual
theorem ix_seg : ∀ (s : Sh) (g : Int) (i : Nat) (A B : List Int) (C D : List Fl), g < i → A.length = i → C.length = i → (∀ x ∈ A, x < (i : Int)) → (∀ x ∈ B, x < (i : Int) ∨ (i : Int) + s.size ≤ x) → Ix (C ++ flat s ++ D) (fun v => kf 0 (A ++ parsS g i s ++ B) v) i s
 | .mk nm r k ks, g, i, A, B, C, D, hg, hA, hC, h1, h2 => by
  simp only [Sh.size] at h2
  simp only [Ix]
  refine ⟨?_, ?_, ?_⟩
  ·rw [List.append_assoc, List.getElem?_append_right (by omega), hC, Nat.sub_self]
   simp [flat]
  ·rw [kf_append, kf_append, kf_none A _ _ (fun x hx => by have := h1 x hx; omega), kf_none B _ _ (fun x hx => by have := h2 x hx; omega), Nat.zero_add, hA]
   simp only [parsS, kf, List.nil_append, List.append_nil]
   rw [if_neg (by omega), kf_pars ks i (i + 1) (by omega)]
  ·have e1 : A ++ parsS g i (.mk nm r k ks) ++ B = (A ++ [g]) ++ parsL i (i + 1) ks ++ B := by simp [parsS]
   have e2 : C ++ flat (.mk nm r k ks) ++ D = (C ++ [⟨nm, r, k, ks.length⟩]) ++ flatL ks ++ D := by simp [flat]
   rw [e1, e2]
   refine ixL_seg ks i (i + 1) _ B _ D (by omega) (by simp [hA]) (by simp [hC]) (fun x hx => ?_) (fun x hx => ?_)
   ·rcases List.mem_append.1 hx with hx | hx
    ·have := h1 x hx; omega
    ·have : x = g := by simpa using hx
     omega
   ·have := h2 x hx; omega
theorem ixL_seg : ∀ (ks : List Sh) (g : Int) (i : Nat) (A B : List Int) (C D : List Fl), g < i → A.length = i → C.length = i → (∀ x ∈ A, x < (i : Int)) → (∀ x ∈ B, x < (i : Int) ∨ (i : Int) + shSizes ks ≤ x) → IxL (C ++ flatL ks ++ D) (fun v => kf 0 (A ++ parsL g i ks ++ B) v) i ks
 | [], _, _, _, _, _, _, _, _, _, _, _ => by simp only [IxL]
 | s :: r, g, i, A, B, C, D, hg, hA, hC, h1, h2 => by
  simp only [shSizes] at h2
  simp only [IxL]
  constructor
  ·have e1 : A ++ parsL g i (s :: r) ++ B = A ++ parsS g i s ++ (parsL g (i + s.size) r ++ B) := by simp [parsL]
   have e2 : C ++ flatL (s :: r) ++ D = C ++ flat s ++ (flatL r ++ D) := by simp [flatL]
   rw [e1, e2]
   refine ix_seg s g i A _ C _ hg hA hC h1 (fun x hx => ?_)
   rcases List.mem_append.1 hx with hx | hx
   ·have := parsL_mem r g _ x hx; omega
   ·have := h2 x hx; omega
  ·have e1 : A ++ parsL g i (s :: r) ++ B = (A ++ parsS g i s) ++ parsL g (i + s.size) r ++ B := by simp [parsL]
   have e2 : C ++ flatL (s :: r) ++ D = (C ++ flat s) ++ flatL r ++ D := by simp [flatL]
   rw [e1, e2]
   refine ixL_seg r g (i + s.size) _ B _ D (by omega) (by simp [hA, parsS_length]) (by simp [hC, flat_length]) (fun x hx => ?_) (fun x hx => ?_)
   ·rcases List.mem_append.1 hx with hx | hx
    ·have := h1 x hx; omega
    ·have := parsS_mem s g i x hx; omega
   ·have := h2 x hx; omega
end
/-- Of a shape's fields: what is in what. -/
theorem ix_root (s : Sh) (hg : GoodS s) (hk : s.kind = 0) : Ix (flat s) (fun v => kidsOf (par (flat s)) v) 0 s := by
 have h := ix_seg s (-1) 0 [] [] [] [] (by omega) rfl rfl (by simp) (by simp)
 simp only [List.nil_append, List.append_nil] at h
 have e : (fun v => kidsOf (par (flat s)) v) = fun v => kf 0 (parsS (-1) 0 s) v := by
  funext v; rw [kidsOf_kf, par_root s hg hk]
 rw [e]; exact h
end Go.Proofs.Ytibhcibcfommeaa
namespace Go.Proofs.Ytibhcibcfommeaa
open Go.RowKit Go.Shr
structure Hd where
 name : ByteArray
 rep : Int
 kind : Int
/-- A shape on its way: the open groups, the innermost one ahead, each with what is whole in it. -/
abbrev Zs := List (Hd × List Sh)
def flatE (e : Nat) : Zs → List Fl
 | [] => []
 | x :: r => flatE 1 r ++ ⟨x.1.name, x.1.rep, x.1.kind, (x.2.length + e : Nat)⟩ :: flatL x.2
def openZ : Zs → List Int
 | [] => []
 | _ :: r => openZ r ++ [((flatE 1 r).length : Int)]
theorem openZ_len : ∀ z : Zs, (openZ z).length = z.length
 | [] => rfl
 | x :: r => by simp [openZ, openZ_len r]
theorem flatE_len (a b : Nat) : ∀ z : Zs, (flatE a z).length = (flatE b z).length
 | [] => rfl
 | x :: r => by simp [flatE]
theorem openZ_last (x : Hd × List Sh) (r : Zs) : (openZ (x :: r))[r.length]? = some ((flatE 1 r).length : Int) := by
 rw [openZ, List.getElem?_append_right (by rw [openZ_len]; exact Nat.le_refl _), openZ_len, Nat.sub_self]; rfl
theorem flatE_top (e : Nat) (x : Hd × List Sh) (r : Zs) : (flatE e (x :: r))[(flatE 1 r).length]? = some ⟨x.1.name, x.1.rep, x.1.kind, (x.2.length + e : Nat)⟩ := by
 rw [flatE, List.getElem?_append_right (Nat.le_refl _), Nat.sub_self]; rfl
theorem openZ_cell (x : Hd × List Sh) (r : Zs) : (ints (openZ (x :: r)))[r.length]? = some (.int .i64 ((flatE 1 r).length : Int)) := by
 simp only [ints, List.getElem?_map, openZ_last x r]; rfl
theorem fls_kids {l : List Fl} {i : Nat} {f : Fl} (h : l[i]? = some f) : (fls l)[i * 4 + 3]? = some (.int .i64 f.kids) := by
 obtain ⟨h1, h2⟩ := List.getElem?_eq_some_iff.1 h
 have := (fls_get _ _ h1).2.2.2
 rw [h2] at this; exact this
theorem fls_append (a b : List Fl) : fls (a ++ b) = fls a ++ fls b := by simp [fls]
theorem fls_cons (x : Fl) (b : List Fl) : fls (x :: b) = [.string x.name, .int .i64 x.rep, .int .i64 x.kind, .int .i64 x.kids] ++ fls b := by simp [fls]
theorem flatE_inc (x : Hd × List Sh) (r : Zs) : (fls (flatE 0 (x :: r))).set ((flatE 1 r).length * 4 + 3) (.int .i64 ((x.2.length : Int) + 1)) = fls (flatE 1 (x :: r)) := by
 simp only [flatE, fls_append, fls_cons]
 rw [List.set_append_right _ _ (by rw [fls_length]; omega), fls_length, show (flatE 1 r).length * 4 + 3 - (flatE 1 r).length * 4 = 3 by omega]
 simp
def popN : Nat → Zs → Zs
 | 0, z => z
 | k + 1, z => match z with
  | x :: y :: r => if x.2 = [] then z else popN k ((y.1, y.2 ++ [.mk x.1.name x.1.rep x.1.kind x.2]) :: r)
  | z => z
theorem flatE_pop (x y : Hd × List Sh) (r : Zs) : flatE 0 ((y.1, y.2 ++ [.mk x.1.name x.1.rep x.1.kind x.2]) :: r) = flatE 0 (x :: y :: r) := by
 simp only [flatE, flatL_append, flatL, flat, List.append_nil, List.length_append, List.length_cons, List.length_nil, List.append_assoc, List.cons_append]
 simp
theorem openZ_pop (x y : Hd × List Sh) (ks : List Sh) (r : Zs) : openZ ((y.1, ks) :: r) = (openZ (x :: y :: r)).take (r.length + 1) := by
 simp only [openZ]
 rw [List.take_left' (by simp [openZ_len])]
def addF (nm : ByteArray) (rep kind : Int) : Zs → Zs
 | [] => []
 | x :: r => if kind = 0 then (⟨nm, rep, 0⟩, []) :: x :: r else (x.1, x.2 ++ [.mk nm rep kind []]) :: r
theorem flatE_add (nm : ByteArray) (rep kind : Int) (x : Hd × List Sh) (r : Zs) : flatE 0 (addF nm rep kind (x :: r)) = flatE 1 (x :: r) ++ [⟨nm, rep, kind, 0⟩] := by
 unfold addF
 dsimp only
 split
 ·rename_i h; subst h; simp [flatE, flatL]
 ·simp [flatE, flatL_append, flatL, flat]
def nmOf (i : Nat) : ByteArray := ⟨#[UInt8.ofNat (97 + i)]⟩
def kindOf (n : Nat) (x : Int) : Int := if 4 < n ∧ (x % 8) % 5 = 0 then 2 else (x % 8) % 5
def stepZ (i : Nat) (x : Int) (z : Zs) : Zs := addF (nmOf i) ((x.tdiv 8) % 3) (kindOf (popN ((x.tdiv 64) % 3).toNat z).length x) (popN ((x.tdiv 64) % 3).toNat z)
def runZ (ns : List Int) : Nat → Zs
 | 0 => [(⟨⟨#[109]⟩, 0, 0⟩, [])]
 | i + 1 => stepZ i (ns.getD i 0) (runZ ns i)
def finZ : Zs → Zs
 | [] => []
 | x :: r => if x.2 = [] then (x.1, [.mk ⟨#[122]⟩ 0 4 []]) :: r else x :: r
def makeZ (ns : List Int) : Zs := finZ (runZ ns (min ns.length 12))
def makeL (ns : List Int) : List Fl := flatE 0 (makeZ ns)
def zipUp : Zs → Sh
 | [] => .mk ⟨#[]⟩ 0 0 []
 | [x] => .mk x.1.name x.1.rep x.1.kind x.2
 | x :: y :: r => zipUp ((y.1, y.2 ++ [.mk x.1.name x.1.rep x.1.kind x.2]) :: r)
termination_by z => z.length
theorem flat_zip : ∀ (n : Nat) (z : Zs), z.length = n → z ≠ [] → flat (zipUp z) = flatE 0 z
 | _, [], _, h => absurd rfl h
 | _, [x], _, _ => by simp [zipUp, flat, flatE]
 | 0, _ :: _ :: _, h, _ => by simp at h
 | n + 1, x :: y :: r, h, _ => by
  rw [zipUp, flat_zip n _ (by simpa using h) (by simp), flatE_pop]
/-- What holds on the way. -/
structure GZ (z : Zs) : Prop where
 pos : z ≠ []
 len : z.length ≤ 5
 hd : ∀ x ∈ z, 0 ≤ x.1.rep ∧ x.1.rep ≤ 2 ∧ x.1.kind = 0 ∧ GoodL x.2
 root : ∃ ks, z.getLast? = some (⟨⟨#[109]⟩, 0, 0⟩, ks)
theorem GZ.pop : ∀ (k : Nat) {z : Zs}, GZ z → GZ (popN k z)
 | 0, z, h => h
 | k + 1, [], h => absurd rfl h.pos
 | k + 1, [x], h => by simpa [popN] using h
 | k + 1, x :: y :: r, h => by
  unfold popN
  dsimp only
  split
  ·exact h
  ·rename_i hne
   refine GZ.pop k ⟨by simp, by have := h.len; simp at this ⊢; omega, fun a ha => ?_, ?_⟩
   ·rcases List.mem_cons.1 ha with rfl | ha
    ·have h1 := h.hd y (by simp)
     have h2 := h.hd x (by simp)
     refine ⟨h1.1, h1.2.1, h1.2.2.1, ?_⟩
     rw [GoodL_append]
     refine ⟨h1.2.2.2, ?_⟩
     simp only [GoodL, GoodS]
     exact ⟨⟨h2.1, h2.2.1, by omega, by omega, fun h => absurd h2.2.2.1 h, fun _ => hne, h2.2.2.2⟩, trivial⟩
    ·exact h.hd a (by simp [ha])
   ·obtain ⟨ks, hk⟩ := h.root
    cases r with
    | nil =>
     simp at hk
     obtain rfl := hk
     exact ⟨_, rfl⟩
    | cons b r => exact ⟨ks, by simpa using hk⟩
theorem kindOf_bd (n : Nat) (x : Int) : 0 ≤ kindOf n x ∧ kindOf n x ≤ 4 ∧ (kindOf n x = 0 → n ≤ 4) := by
 unfold kindOf
 have h1 := Int.emod_nonneg (x % 8) (show (5 : Int) ≠ 0 by decide)
 have h2 := Int.emod_lt_of_pos (x % 8) (show (0 : Int) < 5 by decide)
 split
 ·omega
 ·rename_i h
  refine ⟨h1, by omega, fun h0 => ?_⟩
  by_cases hn : 4 < n
  ·exact absurd ⟨hn, h0⟩ h
  ·omega
theorem GZ.add {z : Zs} (h : GZ z) (nm : ByteArray) (rep kind : Int) (h0 : 0 ≤ rep) (h2 : rep ≤ 2) (k0 : 0 ≤ kind) (k4 : kind ≤ 4) (hk : kind = 0 → z.length ≤ 4) : GZ (addF nm rep kind z) := by
 obtain ⟨x, r, rfl⟩ : ∃ x r, z = x :: r := by cases z with | nil => exact absurd rfl h.pos | cons x r => exact ⟨x, r, rfl⟩
 unfold addF
 dsimp only
 split
 ·rename_i h'
  refine ⟨by simp, by have := hk h'; simp at this ⊢; omega, fun a ha => ?_, ?_⟩
  ·rcases List.mem_cons.1 ha with rfl | ha
   ·exact ⟨h0, h2, rfl, by simp [GoodL]⟩
   ·exact h.hd a ha
  ·obtain ⟨ks, hk⟩ := h.root
   exact ⟨ks, by rw [List.getLast?_cons_cons]; exact hk⟩
 ·rename_i h'
  have h1 := h.hd x (by simp)
  refine ⟨by simp, h.len, fun a ha => ?_, ?_⟩
  ·rcases List.mem_cons.1 ha with rfl | ha
   ·refine ⟨h1.1, h1.2.1, h1.2.2.1, ?_⟩
    rw [GoodL_append]
    refine ⟨h1.2.2.2, ?_⟩
    simp only [GoodL, GoodS]
    exact ⟨⟨h0, h2, k0, k4, fun _ => trivial, fun h => absurd h h', trivial⟩, trivial⟩
   ·exact h.hd a (by simp [ha])
  ·obtain ⟨ks, hk⟩ := h.root
   cases r with
   | nil =>
    simp at hk
    subst hk
    exact ⟨_, rfl⟩
   | cons b r => exact ⟨ks, by simpa using hk⟩
theorem GZ.step {z : Zs} (h : GZ z) (i : Nat) (x : Int) : GZ (stepZ i x z) := by
 unfold stepZ
 have h1 := Int.emod_nonneg (x.tdiv 8) (show (3 : Int) ≠ 0 by decide)
 have h2 := Int.emod_lt_of_pos (x.tdiv 8) (show (0 : Int) < 3 by decide)
 have h3 := kindOf_bd (popN ((x.tdiv 64) % 3).toNat z).length x
 exact (h.pop _).add _ _ _ h1 (by omega) h3.1 h3.2.1 h3.2.2
theorem GZ.run (ns : List Int) : ∀ i, GZ (runZ ns i)
 | 0 => ⟨by simp [runZ], by simp [runZ], by simp [runZ, GoodL], ⟨[], rfl⟩⟩
 | i + 1 => (GZ.run ns i).step i _
theorem GZ.fin {z : Zs} (h : GZ z) : GZ (finZ z) ∧ ∃ x r, finZ z = x :: r ∧ x.2 ≠ [] := by
 obtain ⟨x, r, rfl⟩ : ∃ x r, z = x :: r := by cases z with | nil => exact absurd rfl h.pos | cons x r => exact ⟨x, r, rfl⟩
 unfold finZ
 dsimp only
 split
 ·rename_i h'
  have := h.add ⟨#[122]⟩ 0 4 (by decide) (by decide) (by decide) (by decide) (fun h => absurd h (by decide))
  simp only [addF, h', List.nil_append, if_neg (show ¬ ((4 : Int) = 0) by decide)] at this
  exact ⟨this, _, _, rfl, by simp⟩
 ·rename_i h'
  exact ⟨h, x, r, rfl, h'⟩
theorem good_zip : ∀ (n : Nat) (z : Zs), z.length = n → GZ z → (∃ x r, z = x :: r ∧ x.2 ≠ []) → GoodS (zipUp z) ∧ (zipUp z).kind = 0 ∧ (zipUp z).rep = 0 ∧ (zipUp z).name = ⟨#[109]⟩
 | _, [], _, h, _ => absurd rfl h.pos
 | _, [x], _, h, ⟨y, r, he, hne⟩ => by
  simp at he
  obtain ⟨rfl, rfl⟩ := he
  have h1 := h.hd x (by simp)
  obtain ⟨ks, hk⟩ := h.root
  simp at hk
  simp only [zipUp, GoodS, Sh.kind, Sh.rep, Sh.name]
  exact ⟨⟨h1.1, h1.2.1, by omega, by omega, fun h => absurd h1.2.2.1 h, fun _ => hne, h1.2.2.2⟩, h1.2.2.1, by rw [hk], by rw [hk]⟩
 | 0, _ :: _ :: _, h, _, _ => by simp at h
 | n + 1, x :: y :: r, hl, h, ⟨x', r', he, hne⟩ => by
  simp at he
  obtain ⟨rfl, rfl⟩ := he
  rw [zipUp]
  have hp := GZ.pop 1 h
  simp only [popN, if_neg hne] at hp
  exact good_zip n _ (by simpa using hl) hp ⟨_, _, rfl, by simp⟩
def makeSh (ns : List Int) : Sh := zipUp (makeZ ns)
theorem makeL_flat (ns : List Int) : makeL ns = flat (makeSh ns) := (flat_zip _ _ rfl ((GZ.run ns _).fin.1.pos)).symm
theorem makeSh_good (ns : List Int) : GoodS (makeSh ns) ∧ (makeSh ns).kind = 0 ∧ (makeSh ns).rep = 0 ∧ (makeSh ns).name = ⟨#[109]⟩ := good_zip _ _ rfl (GZ.run ns _).fin.1 (GZ.run ns _).fin.2
/-- Names, one behind the other. -/
theorem flatE_names (a b : Nat) (z : Zs) : (flatE a z).map Fl.name = (flatE b z).map Fl.name := by
 cases z with
 | nil => rfl
 | cons x r => simp [flatE]
theorem pop_flat : ∀ (k : Nat) (z : Zs), flatE 0 (popN k z) = flatE 0 z
 | 0, _ => rfl
 | k + 1, [] => rfl
 | k + 1, [x] => rfl
 | k + 1, x :: y :: r => by
  unfold popN
  dsimp only
  split
  ·rfl
  ·rw [pop_flat k, flatE_pop]
theorem run_names (ns : List Int) : ∀ i, (flatE 0 (runZ ns i)).map Fl.name = ⟨#[109]⟩ :: (List.range i).map nmOf
 | 0 => rfl
 | i + 1 => by
  have ih := run_names ns i
  have hp := (GZ.run ns i).pop (((ns.getD i 0).tdiv 64) % 3).toNat
  have hf := pop_flat (((ns.getD i 0).tdiv 64) % 3).toNat (runZ ns i)
  simp only [runZ, stepZ]
  generalize popN (((ns.getD i 0).tdiv 64) % 3).toNat (runZ ns i) = z at *
  obtain ⟨x, r, rfl⟩ : ∃ x r, z = x :: r := by cases z with | nil => exact absurd rfl hp.pos | cons x r => exact ⟨x, r, rfl⟩
  rw [flatE_add, List.map_append, flatE_names 1 0, hf, ih, List.range_succ]
  simp
theorem run_len (ns : List Int) (i : Nat) : (flatE 0 (runZ ns i)).length = i + 1 := by
 have := congrArg List.length (run_names ns i)
 simpa using this
/-- The names of a schema that is made. -/
theorem make_names (ns : List Int) : (makeL ns).map Fl.name = ⟨#[109]⟩ :: (List.range (min ns.length 12)).map nmOf ∨ (makeL ns).map Fl.name = ⟨#[109]⟩ :: (List.range (min ns.length 12)).map nmOf ++ [⟨#[122]⟩] := by
 have hn := run_names ns (min ns.length 12)
 have hp := GZ.run ns (min ns.length 12)
 unfold makeL makeZ
 generalize runZ ns (min ns.length 12) = z at *
 obtain ⟨x, r, rfl⟩ : ∃ x r, z = x :: r := by cases z with | nil => exact absurd rfl hp.pos | cons x r => exact ⟨x, r, rfl⟩
 unfold finZ
 dsimp only
 split
 ·rename_i h'
  right
  have h2 := flatE_add ⟨#[122]⟩ 0 4 x r
  simp only [addF, h', List.nil_append, if_neg (show ¬ ((4 : Int) = 0) by decide)] at h2
  rw [h2, List.map_append, flatE_names 1 0, hn]
  rfl
 ·exact .inl hn
theorem make_len (ns : List Int) : 1 ≤ (makeL ns).length ∧ (makeL ns).length ≤ 14 := by
 rcases make_names ns with h | h <;> · have := congrArg List.length h; simp at this; omega
end Go.Proofs.Ytibhcibcfommeaa
