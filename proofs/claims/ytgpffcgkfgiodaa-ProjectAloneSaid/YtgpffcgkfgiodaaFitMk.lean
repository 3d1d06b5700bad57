/-
  Plain: records that are made fit.
-/
import Derived.Test.YtgpffcgkfgiodaaMkBd
import Derived.Test.YtgpffcgkfgiodaaSchG
set_option linter.unusedSimpArgs false
namespace Go.Proofs.Ytgpffcgkfgiodaa
open Go.RowKit Go.Shr
theorem fitX_nil_or {l : List Fl} {K : Int → List Int} {f : Nat → Tr × Nat} {i : Int} (h : ∀ k, fitT l K (f k).1 i = 0) : ∀ (m k : Nat), fitX l K (mkX f m k).1 i = 0
  | 0, k => by simp [mkX, fitX]
  | m + 1, k => by simp only [mkX, fitX, h k, fitX_nil_or h m (f k).2]; simp
theorem mkX_len {f : Nat → Tr × Nat} : ∀ (m k : Nat), (mkX f m k).1.length = m
  | 0, k => by simp [mkX]
  | m + 1, k => by simp [mkX, mkX_len m (f k).2]
theorem emod_bd (x : Int) {m : Int} (h : 0 < m) : 0 ≤ x % m ∧ x % m < m := ⟨Int.emod_nonneg _ (by omega), Int.emod_lt_of_pos _ h⟩
theorem cntOf_fit (ns : List Int) (rep : Int) (k : Nat) (h0 : 0 ≤ rep) (h2 : rep ≤ 2) : repT rep (cntOf ns rep k).1 = 0 := by
  have a1 := emod_bd (ns.getD k 0) (show (0 : Int) < 2 by decide)
  have a2 := emod_bd (ns.getD k 0) (show (0 : Int) < 4 by decide)
  unfold repT cntOf
  by_cases h : rep = 1
  · rw [if_pos h]; dsimp only; rw [if_neg (by omega), if_neg (by omega)]
  · rw [if_neg h]
    by_cases h' : rep = 2
    · rw [if_pos h']; dsimp only; rw [if_neg (by omega), if_neg (by omega)]
    · rw [if_neg h']; dsimp only; rw [if_neg (by omega), if_neg (by omega)]
theorem nostr : (⟨#[]⟩ : ByteArray).toList = [] := by decide +kernel
mutual
theorem fit_mkT {l : List Fl} {K : Int → List Int} (ns : List Int) : ∀ (s : Sh) (i : Nat) (k : Nat), Ix l K i s → GoodS s → fitT l K (mkT ns s k).1 i = 0
  | .mk nm rp kd ks, i, k, hi, hg => by
    simp only [Ix] at hi
    simp only [GoodS] at hg
    obtain ⟨h1, h2, h3⟩ := hi
    have hf : flAt l (i : Int) = ⟨nm, rp, kd, ks.length⟩ := by simp [flAt, h1]
    rw [fitT_eq, hf]
    dsimp only
    have a1 := emod_bd (ns.getD k 0) (show (0 : Int) < 2 by decide)
    have a2 := emod_bd (ns.getD k 0) (show (0 : Int) < 300 by decide)
    have a3 := emod_bd (ns.getD k 0) (show (0 : Int) < 9 by decide)
    by_cases hk : kd = 0
    · subst hk
      have e : (mkT ns (.mk nm rp 0 ks) k).1 = .mk 0 ⟨#[]⟩ (mkK ns ks (nextA ns k)).1 := by
        rw [mkT, if_neg (by decide), if_neg (by decide), if_neg (by decide), if_neg (by decide)]
      rw [e, if_neg (fun h => h rfl)]
      have hkk := fit_mkK ns ks (i + 1) (nextA ns k) h3 hg.2.2.2.2.2.2
      rw [if_neg (by rintro (h | h | h)
                     · exact h rfl
                     · exact h nostr
                     · rw [h2, offs_len] at h; exact h hkk.2)]
      show fitK l K (mkK ns ks (nextA ns k)).1 (K i) = 0
      rw [h2]; exact hkk.1
    · rw [if_pos hk, mkT]
      have hl : ∀ (n : Int) (s : ByteArray), ¬ ((kd = 4 ∧ n ≠ 0) ∨ (kd ≠ 4 ∧ s.toList ≠ [])) → leafT kd (Tr.mk n s []) = if kd = 1 then (if n < 0 ∨ 1 < n then 14 else 0) else if kd = 2 then (if n < -2147483648 ∨ 2147483647 < n then 14 else 0) else if kd = 3 then 0 else if 100 < s.size then 5 else 0 := fun n s h => by
        unfold leafT
        rw [if_neg (by simpa [Tr.n, Tr.s, Tr.kids] using h)]
        rfl
      by_cases k1 : kd = 1
      · rw [if_pos k1]; dsimp only; rw [hl _ _ (by rw [nostr]; simp; omega), if_pos k1, if_neg (by omega)]
      · rw [if_neg k1]
        by_cases k2 : kd = 2
        · rw [if_pos k2]; dsimp only; rw [hl _ _ (by rw [nostr]; simp; omega), if_neg k1, if_pos k2, if_neg (by omega)]
        · rw [if_neg k2]
          by_cases k3 : kd = 3
          · rw [if_pos k3]; dsimp only; rw [hl _ _ (by rw [nostr]; simp; omega), if_neg k1, if_neg k2, if_pos k3]
          · rw [if_neg k3]
            have k4 : kd = 4 := by omega
            rw [if_pos k4]; dsimp only
            have hsz : (abc.extract 0 (ns.getD k 0 % 9).toNat).size ≤ 100 := by
              rw [ByteArray.size_extract]; have : abc.size = 12 := by decide
              omega
            rw [hl _ _ (by simp [k4]), if_neg k1, if_neg k2, if_neg k3, if_neg (by omega)]
theorem fit_mkK {l : List Fl} {K : Int → List Int} (ns : List Int) : ∀ (ks : List Sh) (i : Nat) (k : Nat), IxL l K i ks → GoodL ks → fitK l K (mkK ns ks k).1 (offs i ks) = 0 ∧ (mkK ns ks k).1.length = ks.length
  | [], i, k, _, _ => by simp [mkK, fitK]
  | s :: r, i, k, hi, hg => by
    simp only [IxL] at hi
    simp only [GoodL] at hg
    have h1 := fitX_nil_or (f := mkT ns s) (fun k => fit_mkT ns s i k hi.1 hg.1) (cntOf ns s.rep k).1 (cntOf ns s.rep k).2
    have h2 := fit_mkK ns r (i + s.size) (mkX (mkT ns s) (cntOf ns s.rep k).1 (cntOf ns s.rep k).2).2 hi.2 hg.2
    have hf : (flAt l (i : Int)).rep = s.rep := by
      obtain ⟨nm, rp, kd, ks⟩ := s
      have := hi.1; simp only [Ix] at this
      simp [flAt, this.1, Sh.rep]
    have hr : repT s.rep (cntOf ns s.rep k).1 = 0 := by
      obtain ⟨nm, rp, kd, ks⟩ := s
      have := hg.1; simp only [GoodS] at this
      exact cntOf_fit ns rp k this.1 this.2.1
    simp only [mkK, offs, List.length_cons, h2.2]
    refine ⟨?_, trivial⟩
    rw [fitK_cons]
    simp only [List.headD_cons, List.tail_cons, fitA, hf, mkX_len, hr, h1]
    simpa using h2.1
end
theorem Sch.fit {l : List Fl} {sh : Sh} (h : Sch l sh) (ns : List Int) : fitT l (KF l) (makeT sh ns) 0 = 0 := fit_mkT ns sh 0 0 h.ix h.good
end Go.Proofs.Ytgpffcgkfgiodaa
