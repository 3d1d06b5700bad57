import Derived.Test.YtjbkjfefjhbolaakSchP
import Derived.Test.YtjbkjfefjhbolaakRegJ
set_option linter.unusedSimpArgs false
set_option linter.unusedVariables false
namespace Go.Proofs.Ytjbkjfefjhbolaa
open Go.RowKit Go.Shr
inductive Sh where
 | mk (name : ByteArray) (rep kind : Int) (kids : List Sh)
def Sh.name : Sh → ByteArray | .mk n _ _ _ => n
def Sh.rep : Sh → Int | .mk _ r _ _ => r
def Sh.kind : Sh → Int | .mk _ _ k _ => k
def Sh.kids : Sh → List Sh | .mk _ _ _ ks => ks
mutual
def Sh.size : Sh → Nat
 | .mk _ _ _ ks => 1 + shSizes ks
def shSizes : List Sh → Nat
 | [] => 0
 | s :: r => s.size + shSizes r
end
mutual
def flat : Sh → List Fl
 | .mk nm r k ks => ⟨nm, r, k, ks.length⟩ :: flatL ks
def flatL : List Sh → List Fl
 | [] => []
 | s :: r => flat s ++ flatL r
end
mutual
def parsS (g : Int) (i : Nat) : Sh → List Int
 | .mk _ _ _ ks => g :: parsL i (i + 1) ks
def parsL (g : Int) (i : Nat) : List Sh → List Int
 | [] => []
 | s :: r => parsS g i s ++ parsL g (i + s.size) r
end
def offs : Nat → List Sh → List Int
 | _, [] => []
 | i, s :: r => (i : Int) :: offs (i + s.size) r
mutual
def GoodS : Sh → Prop
 | .mk _ r k ks => 0 ≤ r ∧ r ≤ 2 ∧ 0 ≤ k ∧ k ≤ 4 ∧ (k ≠ 0 → ks = []) ∧ (k = 0 → ks ≠ []) ∧ GoodL ks
def GoodL : List Sh → Prop
 | [] => True
 | s :: r => GoodS s ∧ GoodL r
end
theorem GoodL_append : ∀ (a b : List Sh), GoodL (a ++ b) ↔ GoodL a ∧ GoodL b
 | [], b => by simp [GoodL]
 | s :: a, b => by simp [GoodL, GoodL_append a b, and_assoc]
theorem GoodL_mem : ∀ {ks : List Sh} {s : Sh}, GoodL ks → s ∈ ks → GoodS s
 | x :: ks, s, h, hm => by
  simp only [GoodL] at h
  rcases List.mem_cons.1 hm with rfl | hm
  ·exact h.1
  ·exact GoodL_mem h.2 hm
theorem flatL_append : ∀ (a b : List Sh), flatL (a ++ b) = flatL a ++ flatL b
 | [], b => by simp [flatL]
 | s :: a, b => by simp [flatL, flatL_append a b]
theorem shSizes_append : ∀ (a b : List Sh), shSizes (a ++ b) = shSizes a + shSizes b
 | [], b => by simp [shSizes]
 | s :: a, b => by simp [shSizes, shSizes_append a b]; omega
mutual
theorem flat_length : ∀ s : Sh, (flat s).length = s.size
 | .mk _ _ _ ks => by simp only [flat, List.length_cons, Sh.size, flatL_length ks]; omega
theorem flatL_length : ∀ ks : List Sh, (flatL ks).length = shSizes ks
 | [] => rfl
 | s :: r => by simp only [flatL, List.length_append, shSizes, flat_length s, flatL_length r]
end
mutual
theorem parsS_length : ∀ (s : Sh) (g : Int) (i : Nat), (parsS g i s).length = s.size
 | .mk _ _ _ ks, g, i => by simp only [parsS, List.length_cons, Sh.size, parsL_length ks]; omega
theorem parsL_length : ∀ (ks : List Sh) (g : Int) (i : Nat), (parsL g i ks).length = shSizes ks
 | [], _, _ => rfl
 | s :: r, g, i => by simp only [parsL, List.length_append, shSizes, parsS_length s, parsL_length r]
end
mutual
theorem parsS_mem : ∀ (s : Sh) (g : Int) (i : Nat) (x : Int), x ∈ parsS g i s → x = g ∨ ((i : Int) ≤ x ∧ x < (i : Int) + s.size)
 | .mk _ _ _ ks, g, i, x, h => by
  simp only [parsS, List.mem_cons] at h
  rcases h with h | h
  ·exact .inl h
  ·have := parsL_mem ks i (i + 1) x h
   simp only [Sh.size]; omega
theorem parsL_mem : ∀ (ks : List Sh) (g : Int) (i : Nat) (x : Int), x ∈ parsL g i ks → x = g ∨ ((i : Int) ≤ x ∧ x < (i : Int) + shSizes ks)
 | [], _, _, _, h => by simp [parsL] at h
 | s :: r, g, i, x, h => by
  simp only [parsL, List.mem_append] at h
  rcases h with h | h
  ·have := parsS_mem s g i x h; simp only [shSizes]; omega
  ·have := parsL_mem r g (i + s.size) x h; simp only [shSizes]; omega
end
theorem parF_cong (i : Nat) {st st2 : Stk} (l : List Fl) (h : popS st = popS st2) : parF i st l = parF i st2 l := by
 cases l with
 | nil => rfl
 | cons f l => simp only [parF, parS, nextS, h]
mutual
theorem par_flat : ∀ (s : Sh) (_ : GoodS s) (i : Nat) (g c : Int) (st : Stk) (rest : List Fl), 0 < c → parF i ((g, c) :: st) (flat s ++ rest) = parsS g i s ++ parF (i + s.size) ((g, c - 1) :: st) rest
 | .mk nm r k ks, hg, i, g, c, st, rest, hc => by
  simp only [GoodS] at hg
  obtain ⟨_, _, _, _, h1, h2, h3⟩ := hg
  have hp : popS ((g, c) :: st) = (g, c) :: st := by simp [popS]; omega
  simp only [flat, List.cons_append, parF, parS, nextS, hp, parsS, Sh.size]
  congr 1
  by_cases hk : k = 0
  ·rw [if_pos hk, parL_flat ks h3 (i + 1) i ks.length ((g, c - 1) :: st) rest (Int.le_refl _)]
   congr 1
   rw [Nat.add_assoc]
   exact parF_cong _ _ (by simp [popS])
  ·rw [if_neg hk, h1 hk]
   simp only [flatL, parsL, shSizes, List.nil_append]
theorem parL_flat : ∀ (ks : List Sh) (_ : GoodL ks) (i : Nat) (g c : Int) (st : Stk) (rest : List Fl), (ks.length : Int) ≤ c → parF i ((g, c) :: st) (flatL ks ++ rest) = parsL g i ks ++ parF (i + shSizes ks) ((g, c - ks.length) :: st) rest
 | [], _, i, g, c, st, rest, _ => by simp [flatL, parsL, shSizes]
 | s :: r, hg, i, g, c, st, rest, hc => by
  simp only [GoodL] at hg
  simp only [List.length_cons] at hc ⊢
  simp only [flatL, List.append_assoc, parsL, shSizes]
  rw [par_flat s hg.1 i g c st _ (by omega), parL_flat r hg.2 (i + s.size) g (c - 1) st rest (by omega)]
  rw [Nat.add_assoc]
  congr 4
  congr 1
  push_cast
  omega
end
theorem par_root (s : Sh) (hg : GoodS s) (hk : s.kind = 0) : par (flat s) = parsS (-1) 0 s := by
 obtain ⟨nm, r, k, ks⟩ := s
 simp only [Sh.kind] at hk
 subst hk
 simp only [GoodS] at hg
 have h := parL_flat ks hg.2.2.2.2.2.2 1 0 ks.length [] [] (Int.le_refl _)
 simp only [List.append_nil] at h
 simp only [par, flat, parF, parS, nextS, popS, parsS, if_true, Nat.zero_add]
 congr 1
 rw [show ((0 : Nat) : Int) = 0 from rfl, h]
 simp [parF]
def kf : Nat → List Int → Int → List Int
 | _, [], _ => []
 | o, x :: p, v => if x = v then (o : Int) :: kf (o + 1) p v else kf (o + 1) p v
theorem kf_append : ∀ (a b : List Int) (o : Nat) (v : Int), kf o (a ++ b) v = kf o a v ++ kf (o + a.length) b v
 | [], b, o, v => by simp [kf]
 | x :: a, b, o, v => by
  simp only [List.cons_append, kf, kf_append a b, List.length_cons]
  rw [show o + 1 + a.length = o + (a.length + 1) by omega]
  split <;> simp
theorem kf_none : ∀ (p : List Int) (o : Nat) (v : Int), (∀ x ∈ p, x ≠ v) → kf o p v = []
 | [], _, _, _ => rfl
 | x :: p, o, v, h => by
  rw [kf, if_neg (h x (List.mem_cons_self ..))]
  exact kf_none p _ v fun y hy => h y (List.mem_cons_of_mem _ hy)
theorem kidsOf_kf (P : List Int) (v : Int) : kidsOf P v = kf 0 P v := by
 suffices h : ∀ n (P : List Int), P.length = n → kidsOf P v = kf 0 P v from h _ P rfl
 intro n
 induction n with
 | zero => intro P h; rw [List.eq_nil_of_length_eq_zero h]; rfl
 | succ n ih =>
  intro P h
  have hne : P ≠ [] := by intro e; rw [e] at h; simp at h
  obtain ⟨Q, x, rfl⟩ : ∃ Q x, P = Q ++ [x] := ⟨P.dropLast, P.getLast hne, (List.dropLast_concat_getLast hne).symm⟩
  have hl : Q.length = n := by simpa using h
  rw [kidsOf_snoc, ih Q hl, kf_append, kf, kf, Nat.zero_add]
theorem kf_pars : ∀ (ks : List Sh) (g : Int) (i : Nat), g < i → kf i (parsL g i ks) g = offs i ks
 | [], _, _, _ => rfl
 | .mk nm r k q :: ks, g, i, h => by
  simp only [parsL, offs]
  rw [kf_append, parsS_length, kf_pars ks g _ (by omega)]
  simp only [parsS, kf, if_true]
  rw [kf_none]
  ·rfl
  ·intro x hx e
   have := parsL_mem q i (i + 1) x hx
   omega
mutual
def Ix (l : List Fl) (K : Int → List Int) : Nat → Sh → Prop
 | i, .mk nm r k ks => l[i]? = some ⟨nm, r, k, ks.length⟩ ∧ K i = offs (i + 1) ks ∧ IxL l K (i + 1) ks
def IxL (l : List Fl) (K : Int → List Int) : Nat → List Sh → Prop
 | _, [] => True
 | i, s :: r => Ix l K i s ∧ IxL l K (i + s.size) r
end
mutual
theorem ix_seg : ∀ (s : Sh) (g : Int) (i : Nat) (A B : List Int) (C D : List Fl), g < i → A.length = i → C.length = i → (∀ x ∈ A, x < (i : Int)) → (∀ x ∈ B, x < (i : Int) ∨ (i : Int) + s.size ≤ x) → Ix (C ++ flat s ++ D) (fun v => kf 0 (A ++ parsS g i s ++ B) v) i s
 | .mk nm r k ks, g, i, A, B, C, D, hg, hA, hC, h1, h2 => by
  simp only [Sh.size] at h2
  simp only [Ix]
  refine ⟨?_, ?_, ?_⟩
  ·rw [List.append_assoc, List.getElem?_append_right (by omega), hC, Nat.sub_self]
   simp [flat]
  ·rw [kf_append, kf_append, kf_none A _ _ (fun x hx => by have := h1 x hx; omega), kf_none B _ _ (fun x hx => by have := h2 x hx; omega), Nat.zero_add, hA]
   simp only [parsS, kf, List.nil_append, List.append_nil]
   rw [if_neg (by omega), kf_pars ks i (i + 1) (by omega)]
  ·have e1 : A ++ parsS g i (.mk nm r k ks) ++ B = (A ++ [g]) ++ parsL i (i + 1) ks ++ B := by simp [parsS]
   have e2 : C ++ flat (.mk nm r k ks) ++ D = (C ++ [⟨nm, r, k, ks.length⟩]) ++ flatL ks ++ D := by simp [flat]
   rw [e1, e2]
   refine ixL_seg ks i (i + 1) _ B _ D (by omega) (by simp [hA]) (by simp [hC]) (fun x hx => ?_) (fun x hx => ?_)
   ·rcases List.mem_append.1 hx with hx | hx
    ·have := h1 x hx; omega
    ·have : x = g := by simpa using hx
     omega
   ·have := h2 x hx; omega
theorem ixL_seg : ∀ (ks : List Sh) (g : Int) (i : Nat) (A B : List Int) (C D : List Fl), g < i → A.length = i → C.length = i → (∀ x ∈ A, x < (i : Int)) → (∀ x ∈ B, x < (i : Int) ∨ (i : Int) + shSizes ks ≤ x) → IxL (C ++ flatL ks ++ D) (fun v => kf 0 (A ++ parsL g i ks ++ B) v) i ks
 | [], _, _, _, _, _, _, _, _, _, _, _ => by simp only [IxL]
 | s :: r, g, i, A, B, C, D, hg, hA, hC, h1, h2 => by
  simp only [shSizes] at h2
  simp only [IxL]
  constructor
  ·have e1 : A ++ parsL g i (s :: r) ++ B = A ++ parsS g i s ++ (parsL g (i + s.size) r ++ B) := by simp [parsL]
   have e2 : C ++ flatL (s :: r) ++ D = C ++ flat s ++ (flatL r ++ D) := by simp [flatL]
   rw [e1, e2]
   refine ix_seg s g i A _ C _ hg hA hC h1 (fun x hx => ?_)
   rcases List.mem_append.1 hx with hx | hx
   ·have := parsL_mem r g _ x hx; omega
   ·have := h2 x hx; omega
  ·have e1 : A ++ parsL g i (s :: r) ++ B = (A ++ parsS g i s) ++ parsL g (i + s.size) r ++ B := by simp [parsL]
   have e2 : C ++ flatL (s :: r) ++ D = (C ++ flat s) ++ flatL r ++ D := by simp [flatL]
   rw [e1, e2]
   refine ixL_seg r g (i + s.size) _ B _ D (by omega) (by simp [hA, parsS_length]) (by simp [hC, flat_length]) (fun x hx => ?_) (fun x hx => ?_)
   ·rcases List.mem_append.1 hx with hx | hx
    ·have := h1 x hx; omega
    ·have := parsS_mem s g i x hx; omega
   ·have := h2 x hx; omega
end
theorem ix_root (s : Sh) (hg : GoodS s) (hk : s.kind = 0) : Ix (flat s) (fun v => kidsOf (par (flat s)) v) 0 s := by
 have h := ix_seg s (-1) 0 [] [] [] [] (by omega) rfl rfl (by simp) (by simp)
 simp only [List.nil_append, List.append_nil] at h
 have e : (fun v => kidsOf (par (flat s)) v) = fun v => kf 0 (parsS (-1) 0 s) v := by
  funext v; rw [kidsOf_kf, par_root s hg hk]
 rw [e]; exact h
end Go.Proofs.Ytjbkjfefjhbolaa
namespace Go.Proofs.Ytjbkjfefjhbolaa
open Go.RowKit Go.Shr
structure Hd where
 name : ByteArray
 rep : Int
 kind : Int
abbrev Zs := List (Hd × List Sh)
def flatE (e : Nat) : Zs → List Fl
 | [] => []
 | x :: r => flatE 1 r ++ ⟨x.1.name, x.1.rep, x.1.kind, (x.2.length + e : Nat)⟩ :: flatL x.2
def openZ : Zs → List Int
 | [] => []
 | _ :: r => openZ r ++ [((flatE 1 r).length : Int)]
theorem openZ_len : ∀ z : Zs, (openZ z).length = z.length
 | [] => rfl
 | x :: r => by simp [openZ, openZ_len r]
theorem flatE_len (a b : Nat) : ∀ z : Zs, (flatE a z).length = (flatE b z).length
 | [] => rfl
 | x :: r => by simp [flatE]
theorem openZ_last (x : Hd × List Sh) (r : Zs) : (openZ (x :: r))[r.length]? = some ((flatE 1 r).length : Int) := by
 rw [openZ, List.getElem?_append_right (by rw [openZ_len]; exact Nat.le_refl _), openZ_len, Nat.sub_self]; rfl
theorem flatE_top (e : Nat) (x : Hd × List Sh) (r : Zs) : (flatE e (x :: r))[(flatE 1 r).length]? = some ⟨x.1.name, x.1.rep, x.1.kind, (x.2.length + e : Nat)⟩ := by
 rw [flatE, List.getElem?_append_right (Nat.le_refl _), Nat.sub_self]; rfl
theorem openZ_cell (x : Hd × List Sh) (r : Zs) : (ints (openZ (x :: r)))[r.length]? = some (.int .i64 ((flatE 1 r).length : Int)) := by
 simp only [ints, List.getElem?_map, openZ_last x r]; rfl
theorem fls_kids {l : List Fl} {i : Nat} {f : Fl} (h : l[i]? = some f) : (fls l)[i * 4 + 3]? = some (.int .i64 f.kids) := by
 obtain ⟨h1, h2⟩ := List.getElem?_eq_some_iff.1 h
 have := (fls_get _ _ h1).2.2.2
 rw [h2] at this; exact this
theorem fls_append (a b : List Fl) : fls (a ++ b) = fls a ++ fls b := by simp [fls]
theorem fls_cons (x : Fl) (b : List Fl) : fls (x :: b) = [.string x.name, .int .i64 x.rep, .int .i64 x.kind, .int .i64 x.kids] ++ fls b := by simp [fls]
theorem flatE_inc (x : Hd × List Sh) (r : Zs) : (fls (flatE 0 (x :: r))).set ((flatE 1 r).length * 4 + 3) (.int .i64 ((x.2.length : Int) + 1)) = fls (flatE 1 (x :: r)) := by
 simp only [flatE, fls_append, fls_cons]
 rw [List.set_append_right _ _ (by rw [fls_length]; omega), fls_length, show (flatE 1 r).length * 4 + 3 - (flatE 1 r).length * 4 = 3 by omega]
 simp
def popN : Nat → Zs → Zs
 | 0, z => z
 | k + 1, z => match z with
  | x :: y :: r => if x.2 = [] then z else popN k ((y.1, y.2 ++ [.mk x.1.name x.1.rep x.1.kind x.2]) :: r)
  | z => z
theorem flatE_pop (x y : Hd × List Sh) (r : Zs) : flatE 0 ((y.1, y.2 ++ [.mk x.1.name x.1.rep x.1.kind x.2]) :: r) = flatE 0 (x :: y :: r) := by
 simp only [flatE, flatL_append, flatL, flat, List.append_nil, List.length_append, List.length_cons, List.length_nil, List.append_assoc, List.cons_append]
 simp
theorem openZ_pop (x y : Hd × List Sh) (ks : List Sh) (r : Zs) : openZ ((y.1, ks) :: r) = (openZ (x :: y :: r)).take (r.length + 1) := by
 simp only [openZ]
 rw [List.take_left' (by simp [openZ_len])]
def addF (nm : ByteArray) (rep kind : Int) : Zs → Zs
 | [] => []
 | x :: r => if kind = 0 then (⟨nm, rep, 0⟩, []) :: x :: r else (x.1, x.2 ++ [.mk nm rep kind []]) :: r
theorem flatE_add (nm : ByteArray) (rep kind : Int) (x : Hd × List Sh) (r : Zs) : flatE 0 (addF nm rep kind (x :: r)) = flatE 1 (x :: r) ++ [⟨nm, rep, kind, 0⟩] := by
 unfold addF
 dsimp only
 split
 ·rename_i h; subst h; simp [flatE, flatL]
 ·simp [flatE, flatL_append, flatL, flat]
def nmOf (i : Nat) : ByteArray := ⟨#[UInt8.ofNat (97 + i)]⟩
def kindOf (n : Nat) (x : Int) : Int := if 4 < n ∧ (x % 8) % 5 = 0 then 2 else (x % 8) % 5
def stepZ (i : Nat) (x : Int) (z : Zs) : Zs := addF (nmOf i) ((x.tdiv 8) % 3) (kindOf (popN ((x.tdiv 64) % 3).toNat z).length x) (popN ((x.tdiv 64) % 3).toNat z)
def runZ (ns : List Int) : Nat → Zs
 | 0 => [(⟨⟨#[109]⟩, 0, 0⟩, [])]
 | i + 1 => stepZ i (ns.getD i 0) (runZ ns i)
def finZ : Zs → Zs
 | [] => []
 | x :: r => if x.2 = [] then (x.1, [.mk ⟨#[122]⟩ 0 4 []]) :: r else x :: r
def makeZ (ns : List Int) : Zs := finZ (runZ ns (min ns.length 12))
def makeL (ns : List Int) : List Fl := flatE 0 (makeZ ns)
def zipUp : Zs → Sh
 | [] => .mk ⟨#[]⟩ 0 0 []
 | [x] => .mk x.1.name x.1.rep x.1.kind x.2
 | x :: y :: r => zipUp ((y.1, y.2 ++ [.mk x.1.name x.1.rep x.1.kind x.2]) :: r)
termination_by z => z.length
theorem flat_zip : ∀ (n : Nat) (z : Zs), z.length = n → z ≠ [] → flat (zipUp z) = flatE 0 z
 | _, [], _, h => absurd rfl h
 | _, [x], _, _ => by simp [zipUp, flat, flatE]
 | 0, _ :: _ :: _, h, _ => by simp at h
 | n + 1, x :: y :: r, h, _ => by
  rw [zipUp, flat_zip n _ (by simpa using h) (by simp), flatE_pop]
structure GZ (z : Zs) : Prop where
 pos : z ≠ []
 len : z.length ≤ 5
 hd : ∀ x ∈ z, 0 ≤ x.1.rep ∧ x.1.rep ≤ 2 ∧ x.1.kind = 0 ∧ GoodL x.2
 root : ∃ ks, z.getLast? = some (⟨⟨#[109]⟩, 0, 0⟩, ks)
theorem GZ.pop : ∀ (k : Nat) {z : Zs}, GZ z → GZ (popN k z)
 | 0, z, h => h
 | k + 1, [], h => absurd rfl h.pos
 | k + 1, [x], h => by simpa [popN] using h
 | k + 1, x :: y :: r, h => by
  unfold popN
  dsimp only
  split
  ·exact h
  ·rename_i hne
   refine GZ.pop k ⟨by simp, by have := h.len; simp at this ⊢; omega, fun a ha => ?_, ?_⟩
   ·rcases List.mem_cons.1 ha with rfl | ha
    ·have h1 := h.hd y (by simp)
     have h2 := h.hd x (by simp)
     refine ⟨h1.1, h1.2.1, h1.2.2.1, ?_⟩
     rw [GoodL_append]
     refine ⟨h1.2.2.2, ?_⟩
     simp only [GoodL, GoodS]
     exact ⟨⟨h2.1, h2.2.1, by omega, by omega, fun h => absurd h2.2.2.1 h, fun _ => hne, h2.2.2.2⟩, trivial⟩
    ·exact h.hd a (by simp [ha])
   ·obtain ⟨ks, hk⟩ := h.root
    cases r with
    | nil =>
     simp at hk
     obtain rfl := hk
     exact ⟨_, rfl⟩
    | cons b r => exact ⟨ks, by simpa using hk⟩
theorem kindOf_bd (n : Nat) (x : Int) : 0 ≤ kindOf n x ∧ kindOf n x ≤ 4 ∧ (kindOf n x = 0 → n ≤ 4) := by
 unfold kindOf
 have h1 := Int.emod_nonneg (x % 8) (show (5 : Int) ≠ 0 by decide)
 have h2 := Int.emod_lt_of_pos (x % 8) (show (0 : Int) < 5 by decide)
 split
 ·omega
 ·rename_i h
  refine ⟨h1, by omega, fun h0 => ?_⟩
  by_cases hn : 4 < n
  ·exact absurd ⟨hn, h0⟩ h
  ·omega
theorem GZ.add {z : Zs} (h : GZ z) (nm : ByteArray) (rep kind : Int) (h0 : 0 ≤ rep) (h2 : rep ≤ 2) (k0 : 0 ≤ kind) (k4 : kind ≤ 4) (hk : kind = 0 → z.length ≤ 4) : GZ (addF nm rep kind z) := by
 obtain ⟨x, r, rfl⟩ : ∃ x r, z = x :: r := by cases z with | nil => exact absurd rfl h.pos | cons x r => exact ⟨x, r, rfl⟩
 unfold addF
 dsimp only
 split
 ·rename_i h'
  refine ⟨by simp, by have := hk h'; simp at this ⊢; omega, fun a ha => ?_, ?_⟩
  ·rcases List.mem_cons.1 ha with rfl | ha
   ·exact ⟨h0, h2, rfl, by simp [GoodL]⟩
   ·exact h.hd a ha
  ·obtain ⟨ks, hk⟩ := h.root
   exact ⟨ks, by rw [List.getLast?_cons_cons]; exact hk⟩
 ·rename_i h'
  have h1 := h.hd x (by simp)
  refine ⟨by simp, h.len, fun a ha => ?_, ?_⟩
  ·rcases List.mem_cons.1 ha with rfl | ha
   ·refine ⟨h1.1, h1.2.1, h1.2.2.1, ?_⟩
    rw [GoodL_append]
    refine ⟨h1.2.2.2, ?_⟩
    simp only [GoodL, GoodS]
    exact ⟨⟨h0, h2, k0, k4, fun _ => trivial, fun h => absurd h h', trivial⟩, trivial⟩
   ·exact h.hd a (by simp [ha])
  ·obtain ⟨ks, hk⟩ := h.root
   cases r with
   | nil =>
    simp at hk
    subst hk
    exact ⟨_, rfl⟩
   | cons b r => exact ⟨ks, by simpa using hk⟩
theorem GZ.step {z : Zs} (h : GZ z) (i : Nat) (x : Int) : GZ (stepZ i x z) := by
 unfold stepZ
 have h1 := Int.emod_nonneg (x.tdiv 8) (show (3 : Int) ≠ 0 by decide)
 have h2 := Int.emod_lt_of_pos (x.tdiv 8) (show (0 : Int) < 3 by decide)
 have h3 := kindOf_bd (popN ((x.tdiv 64) % 3).toNat z).length x
 exact (h.pop _).add _ _ _ h1 (by omega) h3.1 h3.2.1 h3.2.2
theorem GZ.run (ns : List Int) : ∀ i, GZ (runZ ns i)
 | 0 => ⟨by simp [runZ], by simp [runZ], by simp [runZ, GoodL], ⟨[], rfl⟩⟩
 | i + 1 => (GZ.run ns i).step i _
theorem GZ.fin {z : Zs} (h : GZ z) : GZ (finZ z) ∧ ∃ x r, finZ z = x :: r ∧ x.2 ≠ [] := by
 obtain ⟨x, r, rfl⟩ : ∃ x r, z = x :: r := by cases z with | nil => exact absurd rfl h.pos | cons x r => exact ⟨x, r, rfl⟩
 unfold finZ
 dsimp only
 split
 ·rename_i h'
  have := h.add ⟨#[122]⟩ 0 4 (by decide) (by decide) (by decide) (by decide) (fun h => absurd h (by decide))
  simp only [addF, h', List.nil_append, if_neg (show ¬ ((4 : Int) = 0) by decide)] at this
  exact ⟨this, _, _, rfl, by simp⟩
 ·rename_i h'
  exact ⟨h, x, r, rfl, h'⟩
theorem good_zip : ∀ (n : Nat) (z : Zs), z.length = n → GZ z → (∃ x r, z = x :: r ∧ x.2 ≠ []) → GoodS (zipUp z) ∧ (zipUp z).kind = 0 ∧ (zipUp z).rep = 0 ∧ (zipUp z).name = ⟨#[109]⟩
 | _, [], _, h, _ => absurd rfl h.pos
 | _, [x], _, h, ⟨y, r, he, hne⟩ => by
  simp at he
  obtain ⟨rfl, rfl⟩ := he
  have h1 := h.hd x (by simp)
  obtain ⟨ks, hk⟩ := h.root
  simp at hk
  simp only [zipUp, GoodS, Sh.kind, Sh.rep, Sh.name]
  exact ⟨⟨h1.1, h1.2.1, by omega, by omega, fun h => absurd h1.2.2.1 h, fun _ => hne, h1.2.2.2⟩, h1.2.2.1, by rw [hk], by rw [hk]⟩
 | 0, _ :: _ :: _, h, _, _ => by simp at h
 | n + 1, x :: y :: r, hl, h, ⟨x', r', he, hne⟩ => by
  simp at he
  obtain ⟨rfl, rfl⟩ := he
  rw [zipUp]
  have hp := GZ.pop 1 h
  simp only [popN, if_neg hne] at hp
  exact good_zip n _ (by simpa using hl) hp ⟨_, _, rfl, by simp⟩
def makeSh (ns : List Int) : Sh := zipUp (makeZ ns)
theorem makeL_flat (ns : List Int) : makeL ns = flat (makeSh ns) := (flat_zip _ _ rfl ((GZ.run ns _).fin.1.pos)).symm
theorem makeSh_good (ns : List Int) : GoodS (makeSh ns) ∧ (makeSh ns).kind = 0 ∧ (makeSh ns).rep = 0 ∧ (makeSh ns).name = ⟨#[109]⟩ := good_zip _ _ rfl (GZ.run ns _).fin.1 (GZ.run ns _).fin.2
theorem flatE_names (a b : Nat) (z : Zs) : (flatE a z).map Fl.name = (flatE b z).map Fl.name := by
 cases z with
 | nil => rfl
 | cons x r => simp [flatE]
theorem pop_flat : ∀ (k : Nat) (z : Zs), flatE 0 (popN k z) = flatE 0 z
 | 0, _ => rfl
 | k + 1, [] => rfl
 | k + 1, [x] => rfl
 | k + 1, x :: y :: r => by
  unfold popN
  dsimp only
  split
  ·rfl
  ·rw [pop_flat k, flatE_pop]
theorem run_names (ns : List Int) : ∀ i, (flatE 0 (runZ ns i)).map Fl.name = ⟨#[109]⟩ :: (List.range i).map nmOf
 | 0 => rfl
 | i + 1 => by
  have ih := run_names ns i
  have hp := (GZ.run ns i).pop (((ns.getD i 0).tdiv 64) % 3).toNat
  have hf := pop_flat (((ns.getD i 0).tdiv 64) % 3).toNat (runZ ns i)
  simp only [runZ, stepZ]
  generalize popN (((ns.getD i 0).tdiv 64) % 3).toNat (runZ ns i) = z at *
  obtain ⟨x, r, rfl⟩ : ∃ x r, z = x :: r := by cases z with | nil => exact absurd rfl hp.pos | cons x r => exact ⟨x, r, rfl⟩
  rw [flatE_add, List.map_append, flatE_names 1 0, hf, ih, List.range_succ]
  simp
theorem run_len (ns : List Int) (i : Nat) : (flatE 0 (runZ ns i)).length = i + 1 := by
 have := congrArg List.length (run_names ns i)
 simpa using this
theorem make_names (ns : List Int) : (makeL ns).map Fl.name = ⟨#[109]⟩ :: (List.range (min ns.length 12)).map nmOf ∨ (makeL ns).map Fl.name = ⟨#[109]⟩ :: (List.range (min ns.length 12)).map nmOf ++ [⟨#[122]⟩] := by
 have hn := run_names ns (min ns.length 12)
 have hp := GZ.run ns (min ns.length 12)
 unfold makeL makeZ
 generalize runZ ns (min ns.length 12) = z at *
 obtain ⟨x, r, rfl⟩ : ∃ x r, z = x :: r := by cases z with | nil => exact absurd rfl hp.pos | cons x r => exact ⟨x, r, rfl⟩
 unfold finZ
 dsimp only
 split
 ·rename_i h'
  right
  have h2 := flatE_add ⟨#[122]⟩ 0 4 x r
  simp only [addF, h', List.nil_append, if_neg (show ¬ ((4 : Int) = 0) by decide)] at h2
  rw [h2, List.map_append, flatE_names 1 0, hn]
  rfl
 ·exact .inl hn
theorem make_len (ns : List Int) : 1 ≤ (makeL ns).length ∧ (makeL ns).length ≤ 14 := by
 rcases make_names ns with h | h <;> · have := congrArg List.length h; simp at this; omega
end Go.Proofs.Ytjbkjfefjhbolaa
namespace Go.Shr
open Go.RowKit
theorem cgen {P : Program} {k : Nat} {args : Array Value} {W : World} {post : Ending → World → Prop} (h : ∀ W', W' = W → Calls P k args W' post) : Calls P k args W post := h W rfl
mutual
def TrG (ok : Nat → Prop) (w : World) : Tr → List Value → Prop
 | .mk n s ks, cs => ∃ a m cap xs, cs = [.int .i64 n, .string s, .slice a m cap] ∧ s.size ≤ maxLen ∧ Sl ok w 1 a m cap xs ∧ KidG ok w ks xs
def KidG (ok : Nat → Prop) (w : World) : List (List Tr) → List Value → Prop
 | [], xs => xs = []
 | l :: r, xs => ∃ a m cap ys xr, xs = .slice a m cap :: xr ∧ m = l.length ∧ Sl ok w 3 a m cap ys ∧ RowG ok w l ys ∧ KidG ok w r xr
def RowG (ok : Nat → Prop) (w : World) : List Tr → List Value → Prop
 | [], ys => ys = []
 | t :: r, ys => ∃ c0 c1 c2 yr, ys = c0 :: c1 :: c2 :: yr ∧ TrG ok w t [c0, c1, c2] ∧ RowG ok w r yr
end
section
variable {ok ok' : Nat → Prop} {w w' : World}
mutual
theorem TrG.to (h : ∀ size a n cap xs, Sl ok w size a n cap xs → 0 < size → Sl ok' w' size a n cap xs) : ∀ (t : Tr) (cs : List Value), TrG ok w t cs → TrG ok' w' t cs
 | .mk n s ks, cs, h0 => by
  simp only [TrG] at h0 ⊢
  obtain ⟨a, m, cap, xs, h1, h2, h3, h4⟩ := h0
  exact ⟨a, m, cap, xs, h1, h2, h _ _ _ _ _ h3 (by decide), KidG.to h ks xs h4⟩
theorem KidG.to (h : ∀ size a n cap xs, Sl ok w size a n cap xs → 0 < size → Sl ok' w' size a n cap xs) : ∀ (ks : List (List Tr)) (xs : List Value), KidG ok w ks xs → KidG ok' w' ks xs
 | [], xs, h0 => by simpa only [KidG] using h0
 | l :: r, xs, h0 => by
  simp only [KidG] at h0 ⊢
  obtain ⟨a, m, cap, ys, xr, h1, h2, h3, h4, h5⟩ := h0
  exact ⟨a, m, cap, ys, xr, h1, h2, h _ _ _ _ _ h3 (by decide), RowG.to h l ys h4, KidG.to h r xr h5⟩
theorem RowG.to (h : ∀ size a n cap xs, Sl ok w size a n cap xs → 0 < size → Sl ok' w' size a n cap xs) : ∀ (l : List Tr) (ys : List Value), RowG ok w l ys → RowG ok' w' l ys
 | [], ys, h0 => by simpa only [RowG] using h0
 | t :: r, ys, h0 => by
  simp only [RowG] at h0 ⊢
  obtain ⟨c0, c1, c2, yr, h1, h2, h3⟩ := h0
  exact ⟨c0, c1, c2, yr, h1, TrG.to h t _ h2, RowG.to h r yr h3⟩
end
theorem Sl.go {S : Nat → Prop} (hc : Chg S w w') (hn : ∀ k, k < w.heap.size → ok k → ¬ S k ∧ ok' k) {size : Nat} {a : Option Addr} {n cap : Nat} {xs : List Value} (h : Sl ok w size a n cap xs) (hsz : 0 < size) : Sl ok' w' size a n cap xs := by
 have h2 := h.mono (ok' := fun k => k < w.heap.size ∧ ok k) (fun k h1 h2 => ⟨h1, h2⟩) hsz
 refine ⟨h.len, h.le, h.max, h2.row.imp id fun ⟨b, off, h3, h4, h5⟩ => ?_⟩
 have h6 := hn b h4.1 h4.2
 exact ⟨b, off, h3, h6.2, fun j u hj => hc.keep (h5 j u hj) h6.1⟩
theorem TrG.go {S : Nat → Prop} (hc : Chg S w w') (hn : ∀ k, k < w.heap.size → ok k → ¬ S k ∧ ok' k) {t : Tr} {cs : List Value} (h : TrG ok w t cs) : TrG ok' w' t cs := TrG.to (fun _ _ _ _ _ h hs => Sl.go hc hn h hs) t cs h
theorem KidG.go {S : Nat → Prop} (hc : Chg S w w') (hn : ∀ k, k < w.heap.size → ok k → ¬ S k ∧ ok' k) {t : List (List Tr)} {cs : List Value} (h : KidG ok w t cs) : KidG ok' w' t cs := KidG.to (fun _ _ _ _ _ h hs => Sl.go hc hn h hs) t cs h
theorem RowG.go {S : Nat → Prop} (hc : Chg S w w') (hn : ∀ k, k < w.heap.size → ok k → ¬ S k ∧ ok' k) {t : List Tr} {cs : List Value} (h : RowG ok w t cs) : RowG ok' w' t cs := RowG.to (fun _ _ _ _ _ h hs => Sl.go hc hn h hs) t cs h
end
mutual
theorem TrG.at' {ok : Nat → Prop} {w : World} (hk : ∀ k, k < w.heap.size → ok k → k < w.heap.size) : ∀ (t : Tr) (cs : List Value), TrG ok w t cs → TrAt w t cs
 | .mk n s ks, cs, h0 => by
  simp only [TrG, TrAt] at h0 ⊢
  obtain ⟨a, m, cap, xs, h1, h2, h3, h4⟩ := h0
  exact ⟨a, m, cap, xs, h1, h2, h3.mono hk (by decide), KidG.at' hk ks xs h4⟩
theorem KidG.at' {ok : Nat → Prop} {w : World} (hk : ∀ k, k < w.heap.size → ok k → k < w.heap.size) : ∀ (ks : List (List Tr)) (xs : List Value), KidG ok w ks xs → KidAt w ks xs
 | [], xs, h0 => by simpa only [KidG, KidAt] using h0
 | l :: r, xs, h0 => by
  simp only [KidG, KidAt] at h0 ⊢
  obtain ⟨a, m, cap, ys, xr, h1, h2, h3, h4, h5⟩ := h0
  exact ⟨a, m, cap, ys, xr, h1, h2, h3.mono hk (by decide), RowG.at' hk l ys h4, KidG.at' hk r xr h5⟩
theorem RowG.at' {ok : Nat → Prop} {w : World} (hk : ∀ k, k < w.heap.size → ok k → k < w.heap.size) : ∀ (l : List Tr) (ys : List Value), RowG ok w l ys → RowAt w l ys
 | [], ys, h0 => by simpa only [RowG, RowAt] using h0
 | t :: r, ys, h0 => by
  simp only [RowG, RowAt] at h0 ⊢
  obtain ⟨c0, c1, c2, yr, h1, h2, h3⟩ := h0
  exact ⟨c0, c1, c2, yr, h1, TrG.at' hk t _ h2, RowG.at' hk r yr h3⟩
end
theorem TrG.at {ok : Nat → Prop} {w : World} {t : Tr} {cs : List Value} (h : TrG ok w t cs) : TrAt w t cs := TrG.at' (fun _ h _ => h) t cs h
theorem RowG.at {ok : Nat → Prop} {w : World} {t : List Tr} {cs : List Value} (h : RowG ok w t cs) : RowAt w t cs := RowG.at' (fun _ h _ => h) t cs h
mutual
theorem TrAt.g {w : World} : ∀ (t : Tr) (cs : List Value), TrAt w t cs → TrG (fun b => b < w.heap.size) w t cs
 | .mk n s ks, cs, h0 => by
  simp only [TrG, TrAt] at h0 ⊢
  obtain ⟨a, m, cap, xs, h1, h2, h3, h4⟩ := h0
  exact ⟨a, m, cap, xs, h1, h2, h3, KidAt.g ks xs h4⟩
theorem KidAt.g {w : World} : ∀ (ks : List (List Tr)) (xs : List Value), KidAt w ks xs → KidG (fun b => b < w.heap.size) w ks xs
 | [], xs, h0 => by simpa only [KidG, KidAt] using h0
 | l :: r, xs, h0 => by
  simp only [KidG, KidAt] at h0 ⊢
  obtain ⟨a, m, cap, ys, xr, h1, h2, h3, h4, h5⟩ := h0
  exact ⟨a, m, cap, ys, xr, h1, h2, h3, RowAt.g l ys h4, KidAt.g r xr h5⟩
theorem RowAt.g {w : World} : ∀ (l : List Tr) (ys : List Value), RowAt w l ys → RowG (fun b => b < w.heap.size) w l ys
 | [], ys, h0 => by simpa only [RowG, RowAt] using h0
 | t :: r, ys, h0 => by
  simp only [RowG, RowAt] at h0 ⊢
  obtain ⟨c0, c1, c2, yr, h1, h2, h3⟩ := h0
  exact ⟨c0, c1, c2, yr, h1, TrAt.g t _ h2, RowAt.g r yr h3⟩
end
section
variable {ok : Nat → Prop} {w : World}
theorem RowG.snoc {t : Tr} {c0 c1 c2 : Value} (ht : TrG ok w t [c0, c1, c2]) : ∀ {l : List Tr} {ys : List Value}, RowG ok w l ys → RowG ok w (l ++ [t]) (ys ++ [c0, c1, c2])
 | [], ys, h => by
  simp only [RowG] at h; subst h
  simp only [List.nil_append, RowG]
  exact ⟨c0, c1, c2, [], rfl, ht, rfl⟩
 | x :: r, ys, h => by
  simp only [RowG] at h
  obtain ⟨d0, d1, d2, yr, rfl, h2, h3⟩ := h
  simp only [List.cons_append, RowG]
  exact ⟨d0, d1, d2, _, rfl, h2, RowG.snoc ht h3⟩
theorem KidG.snoc {l : List Tr} {a : Option Addr} {m cap : Nat} {ys : List Value} (hm : m = l.length) (hs : Sl ok w 3 a m cap ys) (hr : RowG ok w l ys) : ∀ {ks : List (List Tr)} {xs : List Value}, KidG ok w ks xs → KidG ok w (ks ++ [l]) (xs ++ [.slice a m cap])
 | [], xs, h => by
  simp only [KidG] at h; subst h
  simp only [List.nil_append, KidG]
  exact ⟨a, m, cap, ys, [], rfl, hm, hs, hr, rfl⟩
 | x :: r, xs, h => by
  simp only [KidG] at h
  obtain ⟨b, n, c, zs, xr, rfl, h2, h3, h4, h5⟩ := h
  simp only [List.cons_append, KidG]
  exact ⟨b, n, c, zs, _, rfl, h2, h3, h4, KidG.snoc hm hs hr h5⟩
theorem KidG.len : ∀ {ks : List (List Tr)} {xs : List Value}, KidG ok w ks xs → xs.length = ks.length
 | [], xs, h => by simp only [KidG] at h; subst h; rfl
 | l :: r, xs, h => by
  simp only [KidG] at h
  obtain ⟨a, m, cap, ys, xr, rfl, _, _, _, h5⟩ := h
  simp [KidG.len h5]
theorem RowG.len : ∀ {l : List Tr} {ys : List Value}, RowG ok w l ys → ys.length = l.length * 3
 | [], xs, h => by simp only [RowG] at h; subst h; rfl
 | t :: r, xs, h => by
  simp only [RowG] at h
  obtain ⟨c0, c1, c2, yr, rfl, _, h3⟩ := h
  have := RowG.len h3
  simp; omega
theorem RowG.one' : ∀ {l : List Tr} {ys : List Value}, RowG ok w l ys → ∀ u ∈ ys, u.oneCell' = true
 | [], ys, h => by simp only [RowG] at h; subst h; simp
 | t :: r, ys, h => by
  simp only [RowG] at h
  obtain ⟨c0, c1, c2, yr, rfl, h2, h3⟩ := h
  obtain ⟨n, s, ks⟩ := t
  simp only [TrG] at h2
  obtain ⟨a, m, cap, xs, hc, _⟩ := h2
  simp at hc
  obtain ⟨rfl, rfl, rfl⟩ := hc
  intro u hu
  simp only [List.mem_cons] at hu
  rcases hu with rfl | rfl | rfl | hu
  ·rfl
  ·rfl
  ·rfl
  ·exact RowG.one' h3 u hu
theorem KidG.one' : ∀ {l : List (List Tr)} {ys : List Value}, KidG ok w l ys → ∀ u ∈ ys, u.oneCell' = true
 | [], ys, h => by simp only [KidG] at h; subst h; simp
 | t :: r, ys, h => by
  simp only [KidG] at h
  obtain ⟨a, m, cap, zs, xr, rfl, _, _, _, h3⟩ := h
  intro u hu
  simp only [List.mem_cons] at hu
  rcases hu with rfl | hu
  ·rfl
  ·exact KidG.one' h3 u hu
theorem TrG.mk' {t : Tr} {a : Option Addr} {m cap : Nat} {xs : List Value} (hs : t.s.size ≤ maxLen) (h : Sl ok w 1 a m cap xs) (hk : KidG ok w t.kids xs) : TrG ok w t [.int .i64 t.n, .string t.s, .slice a m cap] := by
 obtain ⟨n, s, ks⟩ := t
 simp only [TrG]
 exact ⟨a, m, cap, xs, rfl, hs, h, hk⟩
theorem TrG.leaf {n : Int} {s : ByteArray} (hs : s.size ≤ maxLen) : TrG ok w (.mk n s []) [.int .i64 n, .string s, .slice none 0 0] := by
 simp only [TrG, KidG]
 exact ⟨none, 0, 0, [], rfl, hs, Sl.nil _ _ _ _, rfl⟩
end
structure ORow (e : TypeId) (B : Nat) (w : World) (a : Option Addr) (n cap : Nat) (l : List Tr) (ys : List Value) : Prop where
 own : Own B w e 3 a n cap ys
 row : RowG (fun b => B ≤ b ∧ ¬ blk a b) w l ys
 lt : ∀ b, blk a b → b < w.heap.size
 len : n = l.length
structure OKid (e : TypeId) (B : Nat) (w : World) (a : Option Addr) (n cap : Nat) (ks : List (List Tr)) (xs : List Value) : Prop where
 own : Own B w e 1 a n cap xs
 kid : KidG (fun b => B ≤ b ∧ ¬ blk a b) w ks xs
 lt : ∀ b, blk a b → b < w.heap.size
 len : n = ks.length
section
variable {e : TypeId} {B : Nat} {w w' w3 : World} {a a3 : Option Addr} {n cap cap3 : Nat}
theorem ORow.nil (e : TypeId) (B : Nat) (w : World) : ORow e B w none 0 0 [] [] := ⟨Own.nil _ _ _ _, by simp only [RowG], (fun b ⟨_, _, h⟩ => by cases h), rfl⟩
theorem OKid.nil (e : TypeId) (B : Nat) (w : World) : OKid e B w none 0 0 [] [] := ⟨Own.nil _ _ _ _, by simp only [KidG], (fun b ⟨_, _, h⟩ => by cases h), rfl⟩
theorem Own.blt' {size : Nat} {xs : List Value} (h : Own B w e size a n cap xs) (hn : 0 < n) {k : Nat} (hk : blk a k) : B ≤ k ∧ k < w.heap.size := by
 obtain ⟨g, rfl, h1, h2, _⟩ := h.pos hn
 obtain ⟨_, _, e⟩ := hk
 cases e
 exact ⟨h1, h2⟩
theorem Own.chg' {size : Nat} {xs : List Value} {S : Nat → Prop} (h : Own B w e size a n cap xs) (hc : Chg S w w') (hn : ∀ k, B ≤ k → ¬ S k) : Own B w' e size a n cap xs := by
 refine ⟨h.len, h.le, h.max, h.row.imp id ?_⟩
 rintro ⟨g, cur, rfl, hB, hg, hs, ht⟩
 exact ⟨g, cur, rfl, hB, (hc.block g (Array.getElem?_eq_some_iff.1 hg).1 (hn g hB)).trans hg, hs, ht⟩
theorem ORow.chg {S : Nat → Prop} {l : List Tr} {ys : List Value} (h : ORow e B w a n cap l ys) (hc : Chg S w w') (hn : ∀ k, B ≤ k → ¬ S k) : ORow e B w' a n cap l ys :=
 ⟨h.own.chg' hc hn, h.row.go hc (fun k _ h => ⟨hn k h.1, h⟩), fun b hb => Nat.lt_of_lt_of_le (h.lt b hb) hc.size, h.len⟩
theorem OKid.chg {S : Nat → Prop} {l : List (List Tr)} {ys : List Value} (h : OKid e B w a n cap l ys) (hc : Chg S w w') (hn : ∀ k, B ≤ k → ¬ S k) : OKid e B w' a n cap l ys :=
 ⟨h.own.chg' hc hn, h.kid.go hc (fun k _ h => ⟨hn k h.1, h⟩), fun b hb => Nat.lt_of_lt_of_le (h.lt b hb) hc.size, h.len⟩
theorem Sl.grown (hlt : ∀ b, blk a b → b < w.heap.size) (hc : Chg (fun k => blk a k ∧ B ≤ k ∧ 0 < cap) w w3) (hn : ∀ k, blk a3 k → blk a k ∨ w.heap.size ≤ k) :
  ∀ k, k < w.heap.size → (B ≤ k ∧ ¬ blk a k) → ¬ (blk a k ∧ B ≤ k ∧ 0 < cap) ∧ (B ≤ k ∧ ¬ blk a3 k) := fun k hk h =>
 ⟨fun h2 => h.2 h2.1, h.1, fun h2 => by rcases hn k h2 with h3 | h3; exact h.2 h3; omega⟩
theorem ORow.push {l : List Tr} {ys : List Value} {t : Tr} {c0 c1 c2 : Value} (h : ORow e B w a n cap l ys) (ht : TrG (fun b => B ≤ b ∧ ¬ blk a b) w t [c0, c1, c2])
  (ho : Own B w3 e 3 a3 (n + 1) cap3 (ys ++ [c0, c1, c2])) (hc : Chg (fun k => blk a k ∧ B ≤ k ∧ 0 < cap) w w3) (hn : ∀ k, blk a3 k → blk a k ∨ w.heap.size ≤ k) : ORow e B w3 a3 (n + 1) cap3 (l ++ [t]) (ys ++ [c0, c1, c2]) := by
 have hg := Sl.grown h.lt hc hn
 exact ⟨ho, RowG.snoc (ht.go hc hg) (h.row.go hc hg), fun b hb => (ho.blt' (by omega) hb).2, by simp [h.len]⟩
theorem OKid.push {ks : List (List Tr)} {xs : List Value} {l : List Tr} {al : Option Addr} {m cl : Nat} {ys : List Value} (h : OKid e B w a n cap ks xs) (hm : m = l.length) (hs : Sl (fun b => B ≤ b ∧ ¬ blk a b) w 3 al m cl ys) (hr : RowG (fun b => B ≤ b ∧ ¬ blk a b) w l ys)
  (ho : Own B w3 e 1 a3 (n + 1) cap3 (xs ++ [.slice al m cl])) (hc : Chg (fun k => blk a k ∧ B ≤ k ∧ 0 < cap) w w3) (hn : ∀ k, blk a3 k → blk a k ∨ w.heap.size ≤ k) : OKid e B w3 a3 (n + 1) cap3 (ks ++ [l]) (xs ++ [.slice al m cl]) := by
 have hg := Sl.grown h.lt hc hn
 exact ⟨ho, KidG.snoc hm (hs.go hc hg (by decide)) (hr.go hc hg) (h.kid.go hc hg), fun b hb => (ho.blt' (by omega) hb).2, by simp [h.len]⟩
theorem ORow.sl {l : List Tr} {ys : List Value} (h : ORow e B w a n cap l ys) : Sl (fun b => B ≤ b) w 3 a n cap ys ∧ RowG (fun b => B ≤ b) w l ys :=
 ⟨h.own.sl.mono (fun k _ h => h.1) (by decide), h.row.go (Chg.refl (fun _ => False) w) (fun k _ h => ⟨fun h => h, h.1⟩)⟩
theorem OKid.sl {ks : List (List Tr)} {xs : List Value} (h : OKid e B w a n cap ks xs) : Sl (fun b => B ≤ b) w 1 a n cap xs ∧ KidG (fun b => B ≤ b) w ks xs :=
 ⟨h.own.sl.mono (fun k _ h => h.1) (by decide), h.kid.go (Chg.refl (fun _ => False) w) (fun k _ h => ⟨fun h => h, h.1⟩)⟩
end
end Go.Shr
namespace Go.Proofs.Ytjbkjfefjhbolaa
open Go.RowKit Go.Shr
def nextA (ns : List Int) (at' : Nat) : Nat := if at' < ns.length then at' + 1 else at'
def abc : ByteArray := ⟨#[97, 98, 99, 97, 98, 99, 97, 98, 99, 97, 98, 99]⟩
def mkX (f : Nat → Tr × Nat) : Nat → Nat → List Tr × Nat
 | 0, k => ([], k)
 | m + 1, k => ((f k).1 :: (mkX f m (f k).2).1, (mkX f m (f k).2).2)
def cntOf (ns : List Int) (rep : Int) (k : Nat) : Nat × Nat :=
 if rep = 1 then (((ns.getD k 0) % 2).toNat, nextA ns k) else if rep = 2 then (((ns.getD k 0) % 4).toNat, nextA ns k) else (1, k)
mutual
def mkT (ns : List Int) : Sh → Nat → Tr × Nat
 | .mk _ _ kind ks, k =>
  if kind = 1 then (.mk ((ns.getD k 0) % 2) ⟨#[]⟩ [], nextA ns k)
  else if kind = 2 then (.mk ((ns.getD k 0) % 300 - 100) ⟨#[]⟩ [], nextA ns k)
  else if kind = 3 then (.mk (ns.getD k 0) ⟨#[]⟩ [], nextA ns k)
  else if kind = 4 then (.mk 0 (abc.extract 0 ((ns.getD k 0) % 9).toNat) [], nextA ns k)
  else (.mk 0 ⟨#[]⟩ (mkK ns ks (nextA ns k)).1, (mkK ns ks (nextA ns k)).2)
def mkK (ns : List Int) : List Sh → Nat → List (List Tr) × Nat
 | [], k => ([], k)
 | s :: r, k =>
  ((mkX (mkT ns s) (cntOf ns s.rep k).1 (cntOf ns s.rep k).2).1 :: (mkK ns r (mkX (mkT ns s) (cntOf ns s.rep k).1 (cntOf ns s.rep k).2).2).1,
   (mkK ns r (mkX (mkT ns s) (cntOf ns s.rep k).1 (cntOf ns s.rep k).2).2).2)
end
def makeT (s : Sh) (ns : List Int) : Tr := (mkT ns s 0).1
def rest (P : List Int) (v : Int) (i : Nat) : List Int := kf i (P.drop i) v
theorem rest_start {P : List Int} {v : Nat} (h : ∀ (j : Nat) (hj : j < P.length), P[j] < (j : Int)) : rest P v (v + 1) = kf 0 P v := by
 have e : P = P.take (v + 1) ++ P.drop (v + 1) := (List.take_append_drop _ _).symm
 conv => rhs; rw [e]
 rw [kf_append, kf_none]
 ·simp only [List.nil_append, rest, List.length_take, Nat.zero_add]
  by_cases hv : v + 1 ≤ P.length
  ·rw [Nat.min_eq_left hv]
  ·rw [List.drop_eq_nil_of_le (by omega)]; rfl
 ·intro x hx hxv
  obtain ⟨j, hj, rfl⟩ := List.getElem_of_mem hx
  rw [List.getElem_take] at hxv
  simp at hj
  have := h j (by omega)
  omega
theorem rest_yes {P : List Int} {v : Int} {i : Nat} (h : i < P.length) (e : P[i] = v) : rest P v i = (i : Int) :: rest P v (i + 1) := by
 unfold rest
 rw [List.drop_eq_getElem_cons h, kf, if_pos e]
theorem rest_no {P : List Int} {v : Int} {i : Nat} (h : i < P.length) (e : P[i] ≠ v) : rest P v i = rest P v (i + 1) := by
 unfold rest
 rw [List.drop_eq_getElem_cons h, kf, if_neg e]
theorem rest_end {P : List Int} {v : Int} {i : Nat} (h : P.length ≤ i) : rest P v i = [] := by
 unfold rest
 rw [List.drop_eq_nil_of_le h]; rfl
theorem offs_cons {o : Nat} {ks : List Sh} {i : Int} {r : List Int} (h : offs o ks = i :: r) : ∃ s q, ks = s :: q ∧ i = (o : Int) ∧ r = offs (o + s.size) q := by
 cases ks with
 | nil => cases h
 | cons s q => simp only [offs] at h; injection h with h1 h2; exact ⟨s, q, rfl, h1.symm, h2.symm⟩
theorem offs_nil {o : Nat} {ks : List Sh} (h : offs o ks = []) : ks = [] := by
 cases ks with
 | nil => rfl
 | cons s q => simp [offs] at h
theorem offs_len : ∀ (o : Nat) (ks : List Sh), (offs o ks).length = ks.length
 | _, [] => rfl
 | o, s :: q => by simp [offs, offs_len _ q]
end Go.Proofs.Ytjbkjfefjhbolaa
