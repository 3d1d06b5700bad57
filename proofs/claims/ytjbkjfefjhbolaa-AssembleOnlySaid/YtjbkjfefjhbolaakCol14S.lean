import Derived.Test.YtjbkjfefjhbolaakTrG
import Derived.Test.YtjbkjfefjhbolaakOkP
set_option linter.unusedSimpArgs false
set_option linter.unusedVariables false
namespace Go.Proofs.Ytjbkjfefjhbolaa
open Go.RowKit Go.Shr
mutual
def hgt : Sh → Nat
 | .mk _ _ _ ks => hgtL ks
def hgtL : List Sh → Nat
 | [] => 0
 | s :: r => Nat.max (hgt s + 1) (hgtL r)
end
theorem hgtL_le {ks : List Sh} {m : Nat} (h : ∀ s ∈ ks, hgt s + 1 ≤ m) : hgtL ks ≤ m := by
 induction ks with
 | nil => simp [hgtL]
 | cons s r ih =>
  simp only [hgtL]
  exact Nat.max_le.2 ⟨h s (by simp), ih fun x hx => h x (by simp [hx])⟩
def HZ : Zs → Prop
 | [] => True
 | x :: r => (∀ s ∈ x.2, hgt s + (r.length + 1) ≤ 5) ∧ r.length + 1 ≤ 5 ∧ HZ r
theorem HZ.merge {x y : Hd × List Sh} {r : Zs} (h : HZ (x :: y :: r)) : HZ ((y.1, y.2 ++ [.mk x.1.name x.1.rep x.1.kind x.2]) :: r) := by
 simp only [HZ, List.length_cons] at h ⊢
 obtain ⟨h1, h2, h3, h4, h5⟩ := h
 refine ⟨fun s hs => ?_, h4, h5⟩
 rcases List.mem_append.1 hs with hs | hs
 ·exact h3 s hs
 ·rw [List.mem_singleton.1 hs]
  simp only [hgt]
  have : hgtL x.2 ≤ 5 - (r.length + 1) := hgtL_le fun s hs => by have := h1 s hs; omega
  omega
theorem HZ.pop : ∀ (k : Nat) {z : Zs}, HZ z → HZ (popN k z)
 | 0, z, h => h
 | k + 1, [], h => by simpa [popN] using h
 | k + 1, [x], h => by simpa [popN] using h
 | k + 1, x :: y :: r, h => by
  unfold popN
  dsimp only
  split
  ·exact h
  ·exact HZ.pop k h.merge
theorem HZ.add {z : Zs} (h : HZ z) (nm : ByteArray) (rep kind : Int) (hk : kind = 0 → z.length ≤ 4) : HZ (addF nm rep kind z) := by
 cases z with
 | nil => simp [addF, HZ]
 | cons x r =>
  unfold addF
  dsimp only
  split
  ·rename_i h'
   have := hk h'
   simp only [List.length_cons] at this
   simp only [HZ, List.length_cons]
   exact ⟨fun s hs => by simp at hs, by omega, h⟩
  ·simp only [HZ] at h ⊢
   refine ⟨fun s hs => ?_, h.2.1, h.2.2⟩
   rcases List.mem_append.1 hs with hs | hs
   ·exact h.1 s hs
   ·rw [List.mem_singleton.1 hs]; simp only [hgt, hgtL]; omega
theorem HZ.run (ns : List Int) : ∀ i, HZ (runZ ns i)
 | 0 => by simp [runZ, HZ]
 | i + 1 => by
  simp only [runZ, stepZ]
  exact (HZ.pop _ (HZ.run ns i)).add _ _ _ (kindOf_bd _ _).2.2
theorem HZ.fin {z : Zs} (h : HZ z) : HZ (finZ z) := by
 cases z with
 | nil => simp [finZ, HZ]
 | cons x r =>
  unfold finZ
  dsimp only
  split
  ·simp only [HZ] at h ⊢
   exact ⟨fun s hs => by rw [List.mem_singleton.1 hs]; simp only [hgt, hgtL]; omega, h.2⟩
  ·exact h
theorem HZ.zip : ∀ (n : Nat) (z : Zs), z.length = n → HZ z → hgt (zipUp z) ≤ 5
 | _, [], _, h => by simp [zipUp, hgt, hgtL]
 | _, [x], _, h => by
  simp only [zipUp, hgt]
  simp only [HZ, List.length_nil] at h
  exact hgtL_le fun s hs => by have := h.1 s hs; omega
 | 0, _ :: _ :: _, h, _ => by simp at h
 | n + 1, x :: y :: r, hl, h => by
  rw [zipUp]
  exact HZ.zip n _ (by simpa using hl) h.merge
theorem make_hgt (ns : List Int) : hgt (makeSh ns) ≤ 5 := HZ.zip _ _ rfl (HZ.run ns _).fin
end Go.Proofs.Ytjbkjfefjhbolaa
namespace Go.Proofs.Ytjbkjfefjhbolaa
open Go.RowKit Go.Shr
theorem flatMap_le {g : Tr → List Cel} {B : Nat} : ∀ (x : List Tr), (∀ t ∈ x, (g t).length ≤ B) → (x.flatMap g).length ≤ x.length * B
 | [], _ => by simp
 | t :: x, h => by
  have h1 := h t (by simp)
  have h2 := flatMap_le x fun u hu => h u (by simp [hu])
  rw [List.flatMap_cons, List.length_append, List.length_cons, Nat.succ_mul]
  omega
end Go.Proofs.Ytjbkjfefjhbolaa
namespace Go.Proofs.Ytjbkjfefjhbolaa
open Go.RowKit Go.Shr
theorem lv_step {l : List Fl} {o i : Nat} {f : Fl} (ho : o < (par l).length) (hp : (par l)[o] = (i : Int)) (hf : l[o]? = some f) : lvR l o = lvR l i + rmI f.rep ∧ lvD l o = lvD l i + dmI f.rep := by
 have hfl : flN l o = f := by simp [flN, List.getD, hf]
 unfold lvR lvD
 rw [chain_eq (fun j hj => par_bd l j hj) ho, hp, chainI_nat, cntR_cons, cntD_cons, hfl]
 unfold rmI dmI
 constructor
 ·split <;> omega
 ·split <;> omega
theorem lvR_le {l : List Fl} {i lf : Nat} (h : i ∈ Go.Shr.chain (par l) lf) : lvR l i ≤ lvR l lf ∧ lvD l i ≤ lvD l lf := by
 obtain ⟨A, hA, _⟩ := chain_sub (par l) i lf h
 unfold lvR lvD cntR cntD
 rw [hA, List.filter_append, List.filter_append, List.length_append, List.length_append]
 omega
def CelOk (l : List Fl) (lf r : Nat) (C : List Cel) : Prop := ∃ c cs, C = c :: cs ∧ c.r = r ∧ (∀ x ∈ cs, 1 ≤ x.r ∧ x.r ≤ lvR l lf) ∧ ∀ x ∈ C, x.d ≤ lvD l lf ∧ (x.d = lvD l lf ↔ x.v.isSome = true)
theorem CelOk.append {l : List Fl} {lf r r2 : Nat} {A B : List Cel} (ha : CelOk l lf r A) (hb : CelOk l lf r2 B) (h1 : 1 ≤ r2) (h2 : r2 ≤ lvR l lf) : CelOk l lf r (A ++ B) := by
 obtain ⟨c, cs, rfl, hc, hcs, hd⟩ := ha
 obtain ⟨b, bs, rfl, hb1, hbs, hbd⟩ := hb
 refine ⟨c, cs ++ b :: bs, rfl, hc, fun x hx => ?_, fun x hx => ?_⟩
 ·rcases List.mem_append.1 hx with hx | hx
  ·exact hcs x hx
  ·rcases List.mem_cons.1 hx with rfl | hx
   ·rw [hb1]; exact ⟨h1, h2⟩
   ·exact hbs x hx
 ·rcases List.mem_append.1 hx with hx | hx
  ·exact hd x hx
  ·exact hbd x hx
end Go.Proofs.Ytjbkjfefjhbolaa
namespace Go.Proofs.Ytjbkjfefjhbolaa
open Go.RowKit Go.Shr
theorem root_lv {l : List Fl} {sh : Sh} (hS : Sch l sh) (h0 : sh.rep = 0) : lvR l 0 = 0 ∧ lvD l 0 = 0 := by
 have hf : flN l 0 = ⟨sh.name, sh.rep, sh.kind, (flN l 0).kids⟩ := by
  have h := hS.flat
  obtain ⟨nm, rp, kd, ks⟩ := sh
  rw [h]
  rfl
 have h2 : (flN l 0).rep = 0 := by rw [hf]; exact h0
 unfold lvR lvD
 rw [chain_zero, cntR_cons, cntD_cons, h2]
 exact ⟨rfl, rfl⟩
end Go.Proofs.Ytjbkjfefjhbolaa
