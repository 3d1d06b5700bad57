/-
  Plain: schemas made of raw numbers.
-/
import Derived.Test.YtgpffcgkfgiodaaShP
namespace Go.Proofs.Ytgpffcgkfgiodaa
open Go.RowKit Go.Shr
structure Hd where
  name : ByteArray
  rep : Int
  kind : Int
/-- A shape on its way: the open groups, the innermost one ahead, each with what is whole in it. -/
abbrev Zs := List (Hd × List Sh)
def flatE (e : Nat) : Zs → List Fl
  | [] => []
  | x :: r => flatE 1 r ++ ⟨x.1.name, x.1.rep, x.1.kind, (x.2.length + e : Nat)⟩ :: flatL x.2
def openZ : Zs → List Int
  | [] => []
  | _ :: r => openZ r ++ [((flatE 1 r).length : Int)]
theorem openZ_len : ∀ z : Zs, (openZ z).length = z.length
  | [] => rfl
  | x :: r => by simp [openZ, openZ_len r]
theorem flatE_len (a b : Nat) : ∀ z : Zs, (flatE a z).length = (flatE b z).length
  | [] => rfl
  | x :: r => by simp [flatE]
theorem openZ_last (x : Hd × List Sh) (r : Zs) : (openZ (x :: r))[r.length]? = some ((flatE 1 r).length : Int) := by
  rw [openZ, List.getElem?_append_right (by rw [openZ_len]; exact Nat.le_refl _), openZ_len, Nat.sub_self]; rfl
theorem flatE_top (e : Nat) (x : Hd × List Sh) (r : Zs) : (flatE e (x :: r))[(flatE 1 r).length]? = some ⟨x.1.name, x.1.rep, x.1.kind, (x.2.length + e : Nat)⟩ := by
  rw [flatE, List.getElem?_append_right (Nat.le_refl _), Nat.sub_self]; rfl
theorem openZ_cell (x : Hd × List Sh) (r : Zs) : (ints (openZ (x :: r)))[r.length]? = some (.int .i64 ((flatE 1 r).length : Int)) := by
  simp only [ints, List.getElem?_map, openZ_last x r]; rfl
theorem fls_kids {l : List Fl} {i : Nat} {f : Fl} (h : l[i]? = some f) : (fls l)[i * 4 + 3]? = some (.int .i64 f.kids) := by
  obtain ⟨h1, h2⟩ := List.getElem?_eq_some_iff.1 h
  have := (fls_get _ _ h1).2.2.2
  rw [h2] at this; exact this
theorem fls_append (a b : List Fl) : fls (a ++ b) = fls a ++ fls b := by simp [fls]
theorem fls_cons (x : Fl) (b : List Fl) : fls (x :: b) = [.string x.name, .int .i64 x.rep, .int .i64 x.kind, .int .i64 x.kids] ++ fls b := by simp [fls]
theorem flatE_inc (x : Hd × List Sh) (r : Zs) : (fls (flatE 0 (x :: r))).set ((flatE 1 r).length * 4 + 3) (.int .i64 ((x.2.length : Int) + 1)) = fls (flatE 1 (x :: r)) := by
  simp only [flatE, fls_append, fls_cons]
  rw [List.set_append_right _ _ (by rw [fls_length]; omega), fls_length, show (flatE 1 r).length * 4 + 3 - (flatE 1 r).length * 4 = 3 by omega]
  simp
def popN : Nat → Zs → Zs
  | 0, z => z
  | k + 1, z => match z with
    | x :: y :: r => if x.2 = [] then z else popN k ((y.1, y.2 ++ [.mk x.1.name x.1.rep x.1.kind x.2]) :: r)
    | z => z
theorem flatE_pop (x y : Hd × List Sh) (r : Zs) : flatE 0 ((y.1, y.2 ++ [.mk x.1.name x.1.rep x.1.kind x.2]) :: r) = flatE 0 (x :: y :: r) := by
  simp only [flatE, flatL_append, flatL, flat, List.append_nil, List.length_append, List.length_cons, List.length_nil, List.append_assoc, List.cons_append]
  simp
theorem openZ_pop (x y : Hd × List Sh) (ks : List Sh) (r : Zs) : openZ ((y.1, ks) :: r) = (openZ (x :: y :: r)).take (r.length + 1) := by
  simp only [openZ]
  rw [List.take_left' (by simp [openZ_len])]
def addF (nm : ByteArray) (rep kind : Int) : Zs → Zs
  | [] => []
  | x :: r => if kind = 0 then (⟨nm, rep, 0⟩, []) :: x :: r else (x.1, x.2 ++ [.mk nm rep kind []]) :: r
theorem flatE_add (nm : ByteArray) (rep kind : Int) (x : Hd × List Sh) (r : Zs) : flatE 0 (addF nm rep kind (x :: r)) = flatE 1 (x :: r) ++ [⟨nm, rep, kind, 0⟩] := by
  unfold addF
  dsimp only
  split
  · rename_i h; subst h; simp [flatE, flatL]
  · simp [flatE, flatL_append, flatL, flat]
def nmOf (i : Nat) : ByteArray := ⟨#[UInt8.ofNat (97 + i)]⟩
def kindOf (n : Nat) (x : Int) : Int := if 4 < n ∧ (x % 8) % 5 = 0 then 2 else (x % 8) % 5
def stepZ (i : Nat) (x : Int) (z : Zs) : Zs := addF (nmOf i) ((x.tdiv 8) % 3) (kindOf (popN ((x.tdiv 64) % 3).toNat z).length x) (popN ((x.tdiv 64) % 3).toNat z)
def runZ (ns : List Int) : Nat → Zs
  | 0 => [(⟨⟨#[109]⟩, 0, 0⟩, [])]
  | i + 1 => stepZ i (ns.getD i 0) (runZ ns i)
def finZ : Zs → Zs
  | [] => []
  | x :: r => if x.2 = [] then (x.1, [.mk ⟨#[122]⟩ 0 4 []]) :: r else x :: r
def makeZ (ns : List Int) : Zs := finZ (runZ ns (min ns.length 12))
def makeL (ns : List Int) : List Fl := flatE 0 (makeZ ns)
def zipUp : Zs → Sh
  | [] => .mk ⟨#[]⟩ 0 0 []
  | [x] => .mk x.1.name x.1.rep x.1.kind x.2
  | x :: y :: r => zipUp ((y.1, y.2 ++ [.mk x.1.name x.1.rep x.1.kind x.2]) :: r)
termination_by z => z.length
theorem flat_zip : ∀ (n : Nat) (z : Zs), z.length = n → z ≠ [] → flat (zipUp z) = flatE 0 z
  | _, [], _, h => absurd rfl h
  | _, [x], _, _ => by simp [zipUp, flat, flatE]
  | 0, _ :: _ :: _, h, _ => by simp at h
  | n + 1, x :: y :: r, h, _ => by
    rw [zipUp, flat_zip n _ (by simpa using h) (by simp), flatE_pop]
/-- What holds on the way. -/
structure GZ (z : Zs) : Prop where
  pos : z ≠ []
  len : z.length ≤ 5
  hd : ∀ x ∈ z, 0 ≤ x.1.rep ∧ x.1.rep ≤ 2 ∧ x.1.kind = 0 ∧ GoodL x.2
  root : ∃ ks, z.getLast? = some (⟨⟨#[109]⟩, 0, 0⟩, ks)
theorem GZ.pop : ∀ (k : Nat) {z : Zs}, GZ z → GZ (popN k z)
  | 0, z, h => h
  | k + 1, [], h => absurd rfl h.pos
  | k + 1, [x], h => by simpa [popN] using h
  | k + 1, x :: y :: r, h => by
    unfold popN
    dsimp only
    split
    · exact h
    · rename_i hne
      refine GZ.pop k ⟨by simp, by have := h.len; simp at this ⊢; omega, fun a ha => ?_, ?_⟩
      · rcases List.mem_cons.1 ha with rfl | ha
        · have h1 := h.hd y (by simp)
          have h2 := h.hd x (by simp)
          refine ⟨h1.1, h1.2.1, h1.2.2.1, ?_⟩
          rw [GoodL_append]
          refine ⟨h1.2.2.2, ?_⟩
          simp only [GoodL, GoodS]
          exact ⟨⟨h2.1, h2.2.1, by omega, by omega, fun h => absurd h2.2.2.1 h, fun _ => hne, h2.2.2.2⟩, trivial⟩
        · exact h.hd a (by simp [ha])
      · obtain ⟨ks, hk⟩ := h.root
        cases r with
        | nil =>
          simp at hk
          obtain rfl := hk
          exact ⟨_, rfl⟩
        | cons b r => exact ⟨ks, by simpa using hk⟩
theorem kindOf_bd (n : Nat) (x : Int) : 0 ≤ kindOf n x ∧ kindOf n x ≤ 4 ∧ (kindOf n x = 0 → n ≤ 4) := by
  unfold kindOf
  have h1 := Int.emod_nonneg (x % 8) (show (5 : Int) ≠ 0 by decide)
  have h2 := Int.emod_lt_of_pos (x % 8) (show (0 : Int) < 5 by decide)
  split
  · omega
  · rename_i h
    refine ⟨h1, by omega, fun h0 => ?_⟩
    by_cases hn : 4 < n
    · exact absurd ⟨hn, h0⟩ h
    · omega
theorem GZ.add {z : Zs} (h : GZ z) (nm : ByteArray) (rep kind : Int) (h0 : 0 ≤ rep) (h2 : rep ≤ 2) (k0 : 0 ≤ kind) (k4 : kind ≤ 4) (hk : kind = 0 → z.length ≤ 4) : GZ (addF nm rep kind z) := by
  obtain ⟨x, r, rfl⟩ : ∃ x r, z = x :: r := by cases z with | nil => exact absurd rfl h.pos | cons x r => exact ⟨x, r, rfl⟩
  unfold addF
  dsimp only
  split
  · rename_i h'
    refine ⟨by simp, by have := hk h'; simp at this ⊢; omega, fun a ha => ?_, ?_⟩
    · rcases List.mem_cons.1 ha with rfl | ha
      · exact ⟨h0, h2, rfl, by simp [GoodL]⟩
      · exact h.hd a ha
    · obtain ⟨ks, hk⟩ := h.root
      exact ⟨ks, by rw [List.getLast?_cons_cons]; exact hk⟩
  · rename_i h'
    have h1 := h.hd x (by simp)
    refine ⟨by simp, h.len, fun a ha => ?_, ?_⟩
    · rcases List.mem_cons.1 ha with rfl | ha
      · refine ⟨h1.1, h1.2.1, h1.2.2.1, ?_⟩
        rw [GoodL_append]
        refine ⟨h1.2.2.2, ?_⟩
        simp only [GoodL, GoodS]
        exact ⟨⟨h0, h2, k0, k4, fun _ => trivial, fun h => absurd h h', trivial⟩, trivial⟩
      · exact h.hd a (by simp [ha])
    · obtain ⟨ks, hk⟩ := h.root
      cases r with
      | nil =>
        simp at hk
        subst hk
        exact ⟨_, rfl⟩
      | cons b r => exact ⟨ks, by simpa using hk⟩
theorem GZ.step {z : Zs} (h : GZ z) (i : Nat) (x : Int) : GZ (stepZ i x z) := by
  unfold stepZ
  have h1 := Int.emod_nonneg (x.tdiv 8) (show (3 : Int) ≠ 0 by decide)
  have h2 := Int.emod_lt_of_pos (x.tdiv 8) (show (0 : Int) < 3 by decide)
  have h3 := kindOf_bd (popN ((x.tdiv 64) % 3).toNat z).length x
  exact (h.pop _).add _ _ _ h1 (by omega) h3.1 h3.2.1 h3.2.2
theorem GZ.run (ns : List Int) : ∀ i, GZ (runZ ns i)
  | 0 => ⟨by simp [runZ], by simp [runZ], by simp [runZ, GoodL], ⟨[], rfl⟩⟩
  | i + 1 => (GZ.run ns i).step i _
theorem GZ.fin {z : Zs} (h : GZ z) : GZ (finZ z) ∧ ∃ x r, finZ z = x :: r ∧ x.2 ≠ [] := by
  obtain ⟨x, r, rfl⟩ : ∃ x r, z = x :: r := by cases z with | nil => exact absurd rfl h.pos | cons x r => exact ⟨x, r, rfl⟩
  unfold finZ
  dsimp only
  split
  · rename_i h'
    have := h.add ⟨#[122]⟩ 0 4 (by decide) (by decide) (by decide) (by decide) (fun h => absurd h (by decide))
    simp only [addF, h', List.nil_append, if_neg (show ¬ ((4 : Int) = 0) by decide)] at this
    exact ⟨this, _, _, rfl, by simp⟩
  · rename_i h'
    exact ⟨h, x, r, rfl, h'⟩
theorem good_zip : ∀ (n : Nat) (z : Zs), z.length = n → GZ z → (∃ x r, z = x :: r ∧ x.2 ≠ []) → GoodS (zipUp z) ∧ (zipUp z).kind = 0 ∧ (zipUp z).rep = 0 ∧ (zipUp z).name = ⟨#[109]⟩
  | _, [], _, h, _ => absurd rfl h.pos
  | _, [x], _, h, ⟨y, r, he, hne⟩ => by
    simp at he
    obtain ⟨rfl, rfl⟩ := he
    have h1 := h.hd x (by simp)
    obtain ⟨ks, hk⟩ := h.root
    simp at hk
    simp only [zipUp, GoodS, Sh.kind, Sh.rep, Sh.name]
    exact ⟨⟨h1.1, h1.2.1, by omega, by omega, fun h => absurd h1.2.2.1 h, fun _ => hne, h1.2.2.2⟩, h1.2.2.1, by rw [hk], by rw [hk]⟩
  | 0, _ :: _ :: _, h, _, _ => by simp at h
  | n + 1, x :: y :: r, hl, h, ⟨x', r', he, hne⟩ => by
    simp at he
    obtain ⟨rfl, rfl⟩ := he
    rw [zipUp]
    have hp := GZ.pop 1 h
    simp only [popN, if_neg hne] at hp
    exact good_zip n _ (by simpa using hl) hp ⟨_, _, rfl, by simp⟩
def makeSh (ns : List Int) : Sh := zipUp (makeZ ns)
theorem makeL_flat (ns : List Int) : makeL ns = flat (makeSh ns) := (flat_zip _ _ rfl ((GZ.run ns _).fin.1.pos)).symm
theorem makeSh_good (ns : List Int) : GoodS (makeSh ns) ∧ (makeSh ns).kind = 0 ∧ (makeSh ns).rep = 0 ∧ (makeSh ns).name = ⟨#[109]⟩ := good_zip _ _ rfl (GZ.run ns _).fin.1 (GZ.run ns _).fin.2
/-- Names, one behind the other. -/
theorem flatE_names (a b : Nat) (z : Zs) : (flatE a z).map Fl.name = (flatE b z).map Fl.name := by
  cases z with
  | nil => rfl
  | cons x r => simp [flatE]
theorem pop_flat : ∀ (k : Nat) (z : Zs), flatE 0 (popN k z) = flatE 0 z
  | 0, _ => rfl
  | k + 1, [] => rfl
  | k + 1, [x] => rfl
  | k + 1, x :: y :: r => by
    unfold popN
    dsimp only
    split
    · rfl
    · rw [pop_flat k, flatE_pop]
theorem run_names (ns : List Int) : ∀ i, (flatE 0 (runZ ns i)).map Fl.name = ⟨#[109]⟩ :: (List.range i).map nmOf
  | 0 => rfl
  | i + 1 => by
    have ih := run_names ns i
    have hp := (GZ.run ns i).pop (((ns.getD i 0).tdiv 64) % 3).toNat
    have hf := pop_flat (((ns.getD i 0).tdiv 64) % 3).toNat (runZ ns i)
    simp only [runZ, stepZ]
    generalize popN (((ns.getD i 0).tdiv 64) % 3).toNat (runZ ns i) = z at *
    obtain ⟨x, r, rfl⟩ : ∃ x r, z = x :: r := by cases z with | nil => exact absurd rfl hp.pos | cons x r => exact ⟨x, r, rfl⟩
    rw [flatE_add, List.map_append, flatE_names 1 0, hf, ih, List.range_succ]
    simp
theorem run_len (ns : List Int) (i : Nat) : (flatE 0 (runZ ns i)).length = i + 1 := by
  have := congrArg List.length (run_names ns i)
  simpa using this
/-- The names of a schema that is made. -/
theorem make_names (ns : List Int) : (makeL ns).map Fl.name = ⟨#[109]⟩ :: (List.range (min ns.length 12)).map nmOf ∨ (makeL ns).map Fl.name = ⟨#[109]⟩ :: (List.range (min ns.length 12)).map nmOf ++ [⟨#[122]⟩] := by
  have hn := run_names ns (min ns.length 12)
  have hp := GZ.run ns (min ns.length 12)
  unfold makeL makeZ
  generalize runZ ns (min ns.length 12) = z at *
  obtain ⟨x, r, rfl⟩ : ∃ x r, z = x :: r := by cases z with | nil => exact absurd rfl hp.pos | cons x r => exact ⟨x, r, rfl⟩
  unfold finZ
  dsimp only
  split
  · rename_i h'
    right
    have h2 := flatE_add ⟨#[122]⟩ 0 4 x r
    simp only [addF, h', List.nil_append, if_neg (show ¬ ((4 : Int) = 0) by decide)] at h2
    rw [h2, List.map_append, flatE_names 1 0, hn]
    rfl
  · exact .inl hn
theorem make_len (ns : List Int) : 1 ≤ (makeL ns).length ∧ (makeL ns).length ≤ 14 := by
  rcases make_names ns with h | h <;> · have := congrArg List.length h; simp at this; omega
end Go.Proofs.Ytgpffcgkfgiodaa
