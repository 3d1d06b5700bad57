/-
  Plain: how deep fields are; which signs names have; what the sum of Kids is.
-/
import Derived.Test.YtgpffcgkfgiodaaPrR
set_option linter.unusedSimpArgs false
namespace Go.Proofs.Ytgpffcgkfgiodaa
open Go.RowKit Go.Shr
mutual
/-- How deep each field of a shape is. -/
def depS (d : Nat) : Sh → List Int
  | .mk _ _ _ ks => (d : Int) :: depL (d + 1) ks
def depL (d : Nat) : List Sh → List Int
  | [] => []
  | s :: r => depS d s ++ depL d r
end
mutual
/-- How many groups stand in one another. -/
def hgt : Sh → Nat
  | .mk _ _ _ ks => hgtL ks
def hgtL : List Sh → Nat
  | [] => 0
  | s :: r => Nat.max (hgt s + 1) (hgtL r)
end
theorem depF_cong (i : Nat) {st st2 : Stk} (l : List Fl) (h : popS st = popS st2) : depF i st l = depF i st2 l := by
  cases l with
  | nil => rfl
  | cons f l => simp only [depF, nextS, h]
mutual
theorem dep_flat : ∀ (s : Sh) (_ : GoodS s) (i : Nat) (g c : Int) (st : Stk) (rest : List Fl), 0 < c → depF i ((g, c) :: st) (flat s ++ rest) = depS (st.length + 1) s ++ depF (i + s.size) ((g, c - 1) :: st) rest
  | .mk nm r k ks, hg, i, g, c, st, rest, hc => by
    simp only [GoodS] at hg
    obtain ⟨_, _, _, _, h1, h2, h3⟩ := hg
    have hp : popS ((g, c) :: st) = (g, c) :: st := by simp [popS]; omega
    simp only [flat, List.cons_append, depF, nextS, hp, depS, Sh.size, List.length_cons]
    congr 1
    by_cases hk : k = 0
    · rw [if_pos hk, dep_flatL ks h3 (i + 1) i ks.length ((g, c - 1) :: st) rest (Int.le_refl _)]
      simp only [List.length_cons]
      congr 1
      rw [Nat.add_assoc]
      exact depF_cong _ _ (by simp [popS])
    · rw [if_neg hk, h1 hk]
      simp only [flatL, depL, shSizes, List.nil_append]
theorem dep_flatL : ∀ (ks : List Sh) (_ : GoodL ks) (i : Nat) (g c : Int) (st : Stk) (rest : List Fl), (ks.length : Int) ≤ c → depF i ((g, c) :: st) (flatL ks ++ rest) = depL (st.length + 1) ks ++ depF (i + shSizes ks) ((g, c - ks.length) :: st) rest
  | [], _, i, g, c, st, rest, _ => by simp [flatL, depL, shSizes]
  | s :: r, hg, i, g, c, st, rest, hc => by
    simp only [GoodL] at hg
    simp only [List.length_cons] at hc ⊢
    simp only [flatL, List.append_assoc, depL, shSizes]
    rw [dep_flat s hg.1 i g c st _ (by omega), dep_flatL r hg.2 (i + s.size) g (c - 1) st rest (by omega)]
    rw [Nat.add_assoc]
    congr 4
    congr 1
    push_cast
    omega
end
theorem dep_root (s : Sh) (hg : GoodS s) (hk : s.kind = 0) : dep (flat s) = depS 0 s := by
  obtain ⟨nm, r, k, ks⟩ := s
  simp only [Sh.kind] at hk
  subst hk
  simp only [GoodS] at hg
  have h := dep_flatL ks hg.2.2.2.2.2.2 1 0 ks.length [] [] (Int.le_refl _)
  simp only [List.append_nil] at h
  simp only [dep, flat, depF, nextS, popS, depS, if_true, Nat.zero_add]
  congr 1
  rw [show ((0 : Nat) : Int) = 0 from rfl, h]
  simp [depF]
mutual
theorem depS_le : ∀ (s : Sh) (d : Nat), ∀ x ∈ depS d s, 0 ≤ x ∧ x ≤ ((d + hgt s : Nat) : Int)
  | .mk _ _ _ ks, d, x, h => by
    simp only [depS, List.mem_cons] at h
    simp only [hgt]
    rcases h with rfl | h
    · omega
    · have := depL_le ks (d + 1) x h; omega
theorem depL_le : ∀ (ks : List Sh) (d : Nat), ∀ x ∈ depL d ks, 0 ≤ x ∧ x + 1 ≤ ((d + hgtL ks : Nat) : Int)
  | [], d, x, h => by simp [depL] at h
  | s :: r, d, x, h => by
    simp only [depL, List.mem_append] at h
    simp only [hgtL]
    have hm1 := Nat.le_max_left (hgt s + 1) (hgtL r)
    have hm2 := Nat.le_max_right (hgt s + 1) (hgtL r)
    change _ ∧ x + 1 ≤ ((d + Nat.max (hgt s + 1) (hgtL r) : Nat) : Int)
    generalize hM : Nat.max (hgt s + 1) (hgtL r) = M
    have hm1' : hgt s + 1 ≤ M := hM ▸ hm1
    have hm2' : hgtL r ≤ M := hM ▸ hm2
    rcases h with h | h
    · have := depS_le s d x h; omega
    · have := depL_le r d x h; omega
end
mutual
theorem hgt_pr {K : List UInt8 → Bool} : ∀ (s : Sh) (pre : List UInt8), hgt (prW K pre s) ≤ hgt s
  | .mk _ _ _ ks, pre => by simp only [prW, hgt]; exact hgtL_pr ks pre
theorem hgtL_pr {K : List UInt8 → Bool} : ∀ (ks : List Sh) (pre : List UInt8), hgtL (prWL K pre ks) ≤ hgtL ks
  | [], pre => by simp [prWL, hgtL]
  | s :: r, pre => by
    have h1 := hgt_pr (K := K) s (pre ++ [let1 s.name])
    have h2 := hgtL_pr (K := K) r pre
    simp only [prWL, hgtL]
    have e1 := Nat.le_max_left (hgt s + 1) (hgtL r)
    have e2 := Nat.le_max_right (hgt s + 1) (hgtL r)
    split
    · simp only [hgtL]
      exact Nat.max_le.2 ⟨Nat.le_trans (by omega) e1, Nat.le_trans h2 e2⟩
    · exact Nat.le_trans h2 e2
end
theorem hgtL_le {ks : List Sh} {m : Nat} (h : ∀ s ∈ ks, hgt s + 1 ≤ m) : hgtL ks ≤ m := by
  induction ks with
  | nil => simp [hgtL]
  | cons s r ih =>
    simp only [hgtL]
    exact Nat.max_le.2 ⟨h s (by simp), ih fun x hx => h x (by simp [hx])⟩
/-- How deep what is open may be. -/
def HZ : Zs → Prop
  | [] => True
  | x :: r => (∀ s ∈ x.2, hgt s + (r.length + 1) ≤ 5) ∧ r.length + 1 ≤ 5 ∧ HZ r
theorem HZ.merge {x y : Hd × List Sh} {r : Zs} (h : HZ (x :: y :: r)) : HZ ((y.1, y.2 ++ [.mk x.1.name x.1.rep x.1.kind x.2]) :: r) := by
  simp only [HZ, List.length_cons] at h ⊢
  obtain ⟨h1, h2, h3, h4, h5⟩ := h
  refine ⟨fun s hs => ?_, h4, h5⟩
  rcases List.mem_append.1 hs with hs | hs
  · exact h3 s hs
  · rw [List.mem_singleton.1 hs]
    simp only [hgt]
    have : hgtL x.2 ≤ 5 - (r.length + 1) := hgtL_le fun s hs => by have := h1 s hs; omega
    omega
theorem HZ.pop : ∀ (k : Nat) {z : Zs}, HZ z → HZ (popN k z)
  | 0, z, h => h
  | k + 1, [], h => by simpa [popN] using h
  | k + 1, [x], h => by simpa [popN] using h
  | k + 1, x :: y :: r, h => by
    unfold popN
    dsimp only
    split
    · exact h
    · exact HZ.pop k h.merge
theorem HZ.add {z : Zs} (h : HZ z) (nm : ByteArray) (rep kind : Int) (hk : kind = 0 → z.length ≤ 4) : HZ (addF nm rep kind z) := by
  cases z with
  | nil => simp [addF, HZ]
  | cons x r =>
    unfold addF
    dsimp only
    split
    · rename_i h'
      have := hk h'
      simp only [List.length_cons] at this
      simp only [HZ, List.length_cons]
      exact ⟨fun s hs => by simp at hs, by omega, h⟩
    · simp only [HZ] at h ⊢
      refine ⟨fun s hs => ?_, h.2.1, h.2.2⟩
      rcases List.mem_append.1 hs with hs | hs
      · exact h.1 s hs
      · rw [List.mem_singleton.1 hs]; simp only [hgt, hgtL]; omega
theorem HZ.run (ns : List Int) : ∀ i, HZ (runZ ns i)
  | 0 => by simp [runZ, HZ]
  | i + 1 => by
    simp only [runZ, stepZ]
    exact (HZ.pop _ (HZ.run ns i)).add _ _ _ (kindOf_bd _ _).2.2
theorem HZ.fin {z : Zs} (h : HZ z) : HZ (finZ z) := by
  cases z with
  | nil => simp [finZ, HZ]
  | cons x r =>
    unfold finZ
    dsimp only
    split
    · simp only [HZ] at h ⊢
      exact ⟨fun s hs => by rw [List.mem_singleton.1 hs]; simp only [hgt, hgtL]; omega, h.2⟩
    · exact h
theorem HZ.zip : ∀ (n : Nat) (z : Zs), z.length = n → HZ z → hgt (zipUp z) ≤ 5
  | _, [], _, h => by simp [zipUp, hgt, hgtL]
  | _, [x], _, h => by
    simp only [zipUp, hgt]
    simp only [HZ, List.length_nil] at h
    exact hgtL_le fun s hs => by have := h.1 s hs; omega
  | 0, _ :: _ :: _, h, _ => by simp at h
  | n + 1, x :: y :: r, hl, h => by
    rw [zipUp]
    exact HZ.zip n _ (by simpa using hl) h.merge
theorem make_hgt (ns : List Int) : hgt (makeSh ns) ≤ 5 := HZ.zip _ _ rfl (HZ.run ns _).fin
/-- Names of one small letter. -/
def Lts (l : List Fl) : Prop := ∀ f ∈ l, ∃ c : UInt8, f.name.data.toList = [c] ∧ 97 ≤ c.toNat ∧ c.toNat ≤ 122
theorem lets_az : ∀ i, i < 12 → 97 ≤ (UInt8.ofNat (97 + i)).toNat ∧ (UInt8.ofNat (97 + i)).toNat ≤ 122 := by decide +kernel
theorem make_lts (ns : List Int) : Lts (makeL ns) := by
  intro f hf
  have h1 : f.name ∈ (makeL ns).map Fl.name := List.mem_map.2 ⟨f, hf, rfl⟩
  have hm : ∀ i, i < 12 → ∃ c : UInt8, (nmOf i).data.toList = [c] ∧ 97 ≤ c.toNat ∧ c.toNat ≤ 122 := fun i hi => ⟨_, rfl, lets_az i hi⟩
  have h9 : ∃ c : UInt8, (⟨#[109]⟩ : ByteArray).data.toList = [c] ∧ 97 ≤ c.toNat ∧ c.toNat ≤ 122 := ⟨109, rfl, by decide, by decide⟩
  have hz : ∃ c : UInt8, (⟨#[122]⟩ : ByteArray).data.toList = [c] ∧ 97 ≤ c.toNat ∧ c.toNat ≤ 122 := ⟨122, rfl, by decide, by decide⟩
  rcases make_names ns with h | h
  · rw [h] at h1
    rcases List.mem_cons.1 h1 with h1 | h1
    · rw [h1]; exact h9
    · obtain ⟨i, hi, he⟩ := List.mem_map.1 h1
      have := List.mem_range.1 hi
      rw [← he]; exact hm i (by omega)
  · rw [h] at h1
    rcases List.mem_append.1 h1 with h1 | h1
    · rcases List.mem_cons.1 h1 with h1 | h1
      · rw [h1]; exact h9
      · obtain ⟨i, hi, he⟩ := List.mem_map.1 h1
        have := List.mem_range.1 hi
        rw [← he]; exact hm i (by omega)
    · rw [List.mem_singleton.1 h1]; exact hz
theorem keptL_lts {l : List Fl} (h : Lts l) (f : Nat → Bool) : Lts (keptL f l) := by
  intro x hx
  obtain ⟨a, ha, rfl⟩ := List.mem_map.1 hx
  have := List.mem_range.1 (List.mem_filter.1 ha).1
  dsimp only
  rw [flN_eq this]
  exact h _ (List.getElem_mem this)
def sumK : List Fl → Int
  | [] => 0
  | f :: l => f.kids + sumK l
theorem sumK_append : ∀ (a b : List Fl), sumK (a ++ b) = sumK a + sumK b
  | [], b => by simp [sumK]
  | f :: a, b => by simp only [List.cons_append, sumK, sumK_append a b]; omega
mutual
theorem sum_flat : ∀ s : Sh, sumK (flat s) + 1 = (s.size : Int)
  | .mk _ _ _ ks => by
    have := sum_flatL ks
    simp only [flat, sumK, Sh.size]
    push_cast
    omega
theorem sum_flatL : ∀ ks : List Sh, sumK (flatL ks) + (ks.length : Int) = (shSizes ks : Int)
  | [] => by simp [flatL, sumK, shSizes]
  | s :: r => by
    have h1 := sum_flat s
    have h2 := sum_flatL r
    simp only [flatL, sumK_append, shSizes, List.length_cons]
    push_cast
    omega
end
/-- What Check asks. -/
structure CkOk (l : List Fl) : Prop where
  pos : 1 ≤ l.length
  most : l.length ≤ 20
  root : ∀ h : 0 < l.length, l[0].rep = 0 ∧ l[0].kind = 0
  par : ∀ i, 0 < i → ∀ h : i < (par l).length, 0 ≤ (Go.Shr.par l)[i]
  dep : ∀ x ∈ Go.Proofs.Ytgpffcgkfgiodaa.dep l, 0 ≤ x ∧ x ≤ 8
  lts : Lts l
  nms : Nms l
  rk : ∀ f ∈ l, 0 ≤ f.rep ∧ f.rep ≤ 2 ∧ 0 ≤ f.kind ∧ f.kind ≤ 4
  kid : ∀ f ∈ l, (f.kind = 0 → 1 ≤ f.kids) ∧ (f.kind ≠ 0 → f.kids = 0) ∧ f.kids ≤ 20 ∧ 0 ≤ f.kids
  sum : sumK l = (l.length : Int) - 1
mutual
theorem flat_good : ∀ (s : Sh), GoodS s → ∀ f ∈ flat s, (0 ≤ f.rep ∧ f.rep ≤ 2 ∧ 0 ≤ f.kind ∧ f.kind ≤ 4) ∧ (f.kind = 0 → 1 ≤ f.kids) ∧ (f.kind ≠ 0 → f.kids = 0) ∧ f.kids + 1 ≤ (s.size : Int) ∧ 0 ≤ f.kids
  | .mk nm r k ks, hg, f, h => by
    simp only [GoodS] at hg
    obtain ⟨g1, g2, g3, g4, g5, g6, g7⟩ := hg
    simp only [flat, List.mem_cons] at h
    rcases h with rfl | h
    · have hk := kids_sizes ks
      refine ⟨⟨g1, g2, g3, g4⟩, fun h => ?_, fun h => by rw [g5 h]; rfl, by simp only [Sh.size]; push_cast; omega, by dsimp only; omega⟩
      have := g6 h
      have : 0 < ks.length := List.length_pos_iff.2 this
      dsimp only; omega
    · have := flatL_good ks g7 f h
      refine ⟨this.1, this.2.1, this.2.2.1, ?_, this.2.2.2.2⟩
      simp only [Sh.size]; push_cast; omega
theorem flatL_good : ∀ (ks : List Sh), GoodL ks → ∀ f ∈ flatL ks, (0 ≤ f.rep ∧ f.rep ≤ 2 ∧ 0 ≤ f.kind ∧ f.kind ≤ 4) ∧ (f.kind = 0 → 1 ≤ f.kids) ∧ (f.kind ≠ 0 → f.kids = 0) ∧ f.kids + 1 ≤ (shSizes ks : Int) ∧ 0 ≤ f.kids
  | [], _, f, h => by simp [flatL] at h
  | s :: r, hg, f, h => by
    simp only [GoodL] at hg
    simp only [flatL, List.mem_append] at h
    simp only [shSizes]
    rcases h with h | h
    · have := flat_good s hg.1 f h
      refine ⟨this.1, this.2.1, this.2.2.1, ?_, this.2.2.2.2⟩
      push_cast; omega
    · have := flatL_good r hg.2 f h
      refine ⟨this.1, this.2.1, this.2.2.1, ?_, this.2.2.2.2⟩
      push_cast; omega
end
theorem pars_nonneg (s : Sh) (g : Int) (i : Nat) : ∀ k, 0 < k → ∀ h : k < (parsS g i s).length, 0 ≤ (parsS g i s)[k] := by
  obtain ⟨nm, r, kd, ks⟩ := s
  intro k hk h
  simp only [parsS] at h ⊢
  obtain ⟨k, rfl⟩ : ∃ k', k = k' + 1 := ⟨k - 1, by omega⟩
  simp only [List.getElem_cons_succ]
  have hm := List.getElem_mem (l := parsL (↑i) (i + 1) ks) (n := k) (by simpa using h)
  have := parsL_mem ks (i : Int) (i + 1) _ hm
  omega
theorem ck_of {l : List Fl} {sh : Sh} (h : SW l sh) (hl : Lts l) (hh : hgt sh ≤ 8) (hr : sh.rep = 0) : CkOk l := by
  have hf := h.sch.flat
  have hg := h.sch.good
  have hk := h.sch.kind
  have hln : l.length = sh.size := by rw [hf, flat_length]
  have hsz : 1 ≤ sh.size := by cases sh; simp only [Sh.size]; omega
  refine ⟨by omega, h.len, fun h0 => ?_, fun i hi hlt => ?_, fun x hx => ?_, hl, h.nms, fun f hm => ?_, fun f hm => ?_, ?_⟩
  · obtain ⟨nm, r, k, ks⟩ := sh
    simp only [Sh.kind] at hk
    simp only [Sh.rep] at hr
    subst hf
    simp only [flat, List.getElem_cons_zero]
    exact ⟨hr, hk⟩
  · have e : Go.Shr.par l = parsS (-1) 0 sh := by rw [hf]; exact par_root sh hg hk
    have h2 : i < (parsS (-1) 0 sh).length := by rw [← e]; exact hlt
    have := pars_nonneg sh (-1) 0 i hi h2
    simpa only [e] using this
  · rw [hf, dep_root sh hg hk] at hx
    have := depS_le sh 0 x hx
    omega
  · rw [hf] at hm
    exact (flat_good sh hg f hm).1
  · rw [hf] at hm
    have := flat_good sh hg f hm
    have hl20 := h.len
    exact ⟨this.2.1, this.2.2.1, by omega, this.2.2.2.2⟩
  · rw [hf, flat_length]
    have := sum_flat sh
    omega
theorem make_rep (ns : List Int) : (makeSh ns).rep = 0 := (makeSh_good ns).2.2.1
theorem pr_rep (K : List UInt8 → Bool) (pre : List UInt8) (s : Sh) : (prW K pre s).rep = s.rep := by cases s; rfl
/-- What is kept of a made schema is as Check asks. -/
theorem make_ck (ns : List Int) {ps : List ByteArray} (ha : allA (makeL ns) ps) : CkOk (kL ps (makeL ns) (makeSh ns)) := by
  refine ck_of ((make_sw ns).kept ha) (keptL_lts (make_lts ns) _) ?_ ?_
  · have h1 := hgt_pr (K := KW ps) (makeSh ns) []
    have h2 := make_hgt ns
    unfold kS
    omega
  · unfold kS
    rw [pr_rep]; exact make_rep ns
end Go.Proofs.Ytgpffcgkfgiodaa
