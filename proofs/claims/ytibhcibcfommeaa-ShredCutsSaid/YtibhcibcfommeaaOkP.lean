/-
  Plain: how great records are that are made of numbers. Plain: records that are made fit. Plain: trees that are records of a shape; they fit.
-/
import Derived.Test.YtibhcibcfommeaaMake8
import Derived.Test.YtibhcibcfommeaaSchG
set_option linter.unusedSimpArgs false
namespace Go.Proofs.Ytibhcibcfommeaa
open Go.RowKit Go.Shr
end Go.Proofs.Ytibhcibcfommeaa
namespace Go.Proofs.Ytibhcibcfommeaa
open Go.RowKit Go.Shr
theorem mkX_len {f : Nat → Tr × Nat} : ∀ (m k : Nat), (mkX f m k).1.length = m
  | 0, k => by simp [mkX]
  | m + 1, k => by simp [mkX, mkX_len m (f k).2]
theorem emod_bd (x : Int) {m : Int} (h : 0 < m) : 0 ≤ x % m ∧ x % m < m := ⟨Int.emod_nonneg _ (by omega), Int.emod_lt_of_pos _ h⟩
theorem nostr : (⟨#[]⟩ : ByteArray).toList = [] := by decide +kernel
end Go.Proofs.Ytibhcibcfommeaa
namespace Go.Proofs.Ytibhcibcfommeaa
open Go.RowKit Go.Shr
/-- How often a field may be there. -/
def okRep (rep : Int) (m : Nat) : Prop := if rep = 1 then m ≤ 1 else if rep = 2 then m ≤ 50 else m = 1
mutual
/-- A tree that is a record. -/
def okT : Sh → Tr → Prop
  | .mk _ _ kind ks, t =>
    if kind = 1 then (t.n = 0 ∨ t.n = 1) ∧ t.s = ⟨#[]⟩ ∧ t.kids = []
    else if kind = 2 then (-2147483648 ≤ t.n ∧ t.n ≤ 2147483647) ∧ t.s = ⟨#[]⟩ ∧ t.kids = []
    else if kind = 3 then (-9223372036854775808 ≤ t.n ∧ t.n ≤ 9223372036854775807) ∧ t.s = ⟨#[]⟩ ∧ t.kids = []
    else if kind = 4 then t.n = 0 ∧ t.s.size ≤ 100 ∧ t.kids = []
    else t.n = 0 ∧ t.s = ⟨#[]⟩ ∧ okK ks t.kids
def okK : List Sh → List (List Tr) → Prop
  | [], xs => xs = []
  | _ :: _, [] => False
  | s :: r, x :: xs => okRep s.rep x.length ∧ (∀ t ∈ x, okT s t) ∧ okK r xs
end
theorem mkX_mem {f : Nat → Tr × Nat} {Q : Tr → Prop} (h : ∀ k, Q (f k).1) : ∀ (m k : Nat), ∀ t ∈ (mkX f m k).1, Q t
  | 0, k, t, ht => by simp [mkX] at ht
  | m + 1, k, t, ht => by
    simp only [mkX, List.mem_cons] at ht
    rcases ht with rfl | ht
    · exact h k
    · exact mkX_mem h m _ t ht
theorem getD_wf {ns : List Int} (h : ∀ z ∈ ns, (Lit.int .i64 z).wf = true) (k : Nat) : -9223372036854775808 ≤ ns.getD k 0 ∧ ns.getD k 0 ≤ 9223372036854775807 := by
  rw [List.getD_eq_getElem?_getD]
  cases hk : ns[k]? with
  | none => simp
  | some z =>
    have := h z (List.mem_of_getElem? hk)
    simp [Lit.wf, IntKind.min, IntKind.max, IntKind.bits, IntKind.signed] at this
    simp; omega
theorem cntOf_ok (ns : List Int) (rep : Int) (k : Nat) : okRep rep (cntOf ns rep k).1 := by
  have a1 := emod_bd (ns.getD k 0) (show (0 : Int) < 2 by decide)
  have a2 := emod_bd (ns.getD k 0) (show (0 : Int) < 4 by decide)
  unfold okRep cntOf
  by_cases h : rep = 1
  · rw [if_pos h, if_pos h]; dsimp only; omega
  · rw [if_neg h, if_neg h]
    by_cases h' : rep = 2
    · rw [if_pos h', if_pos h']; dsimp only; omega
    · rw [if_neg h', if_neg h']
mutual
theorem ok_mkT {ns : List Int} (hw : ∀ z ∈ ns, (Lit.int .i64 z).wf = true) : ∀ (s : Sh) (k : Nat), okT s (mkT ns s k).1
  | .mk nm rp kd ks, k => by
    have a1 := emod_bd (ns.getD k 0) (show (0 : Int) < 2 by decide)
    have a2 := emod_bd (ns.getD k 0) (show (0 : Int) < 300 by decide)
    have a3 := emod_bd (ns.getD k 0) (show (0 : Int) < 9 by decide)
    have a4 := getD_wf hw k
    rw [mkT, okT]
    by_cases k1 : kd = 1
    · rw [if_pos k1, if_pos k1]; exact ⟨by simp only [Tr.n]; omega, rfl, rfl⟩
    · rw [if_neg k1, if_neg k1]
      by_cases k2 : kd = 2
      · rw [if_pos k2, if_pos k2]; exact ⟨by simp only [Tr.n]; omega, rfl, rfl⟩
      · rw [if_neg k2, if_neg k2]
        by_cases k3 : kd = 3
        · rw [if_pos k3, if_pos k3]; exact ⟨a4, rfl, rfl⟩
        · rw [if_neg k3, if_neg k3]
          by_cases k4 : kd = 4
          · rw [if_pos k4, if_pos k4]
            refine ⟨rfl, ?_, rfl⟩
            have : abc.size = 12 := by decide
            simp only [Tr.s, ByteArray.size_extract]; omega
          · rw [if_neg k4, if_neg k4]
            exact ⟨rfl, rfl, ok_mkK hw ks _⟩
theorem ok_mkK {ns : List Int} (hw : ∀ z ∈ ns, (Lit.int .i64 z).wf = true) : ∀ (ks : List Sh) (k : Nat), okK ks (mkK ns ks k).1
  | [], k => by simp [mkK, okK]
  | s :: r, k => by
    simp only [mkK, okK, mkX_len]
    exact ⟨cntOf_ok ns s.rep k, mkX_mem (fun k => ok_mkT hw s k) _ _, ok_mkK hw r _⟩
end
theorem ok_make {ns : List Int} (hw : ∀ z ∈ ns, (Lit.int .i64 z).wf = true) (sh : Sh) : okT sh (makeT sh ns) := ok_mkT hw sh 0
theorem repT_ok {rep : Int} {m : Nat} (h : okRep rep m) : repT rep m = 0 := by
  unfold okRep at h
  unfold repT
  by_cases h1 : rep = 1
  · rw [if_pos h1] at h
    rw [if_neg (by omega), if_neg (by omega)]
  · rw [if_neg h1] at h
    by_cases h3 : rep = 2
    · rw [if_pos h3] at h
      rw [if_neg (by omega), if_neg (by omega)]
    · rw [if_neg h3] at h
      rw [if_neg (by omega), if_neg (by omega)]
theorem fitX_ok {l : List Fl} {K : Int → List Int} {i : Int} : ∀ (x : List Tr), (∀ t ∈ x, fitT l K t i = 0) → fitX l K x i = 0
  | [], _ => by simp [fitX]
  | t :: r, h => by
    have h1 := h t List.mem_cons_self
    have h2 := fitX_ok r (fun t ht => h t (List.mem_cons_of_mem _ ht))
    simp only [fitX, h1, h2]; simp
mutual
theorem fit_okT {l : List Fl} {K : Int → List Int} : ∀ (s : Sh) (i : Nat) (t : Tr), Ix l K i s → GoodS s → okT s t → fitT l K t i = 0
  | .mk nm rp kd ks, i, t, hi, hg, ht => by
    simp only [Ix] at hi
    simp only [GoodS] at hg
    obtain ⟨h1, h2, h3⟩ := hi
    have hf : flAt l (i : Int) = ⟨nm, rp, kd, ks.length⟩ := by simp [flAt, h1]
    rw [fitT_eq, hf]
    rw [okT] at ht
    dsimp only
    by_cases hk : kd = 0
    · subst hk
      rw [if_neg (by decide), if_neg (by decide), if_neg (by decide), if_neg (by decide)] at ht
      obtain ⟨t1, t2, t3⟩ := ht
      have hkk := fit_okK ks (i + 1) t.kids h3 hg.2.2.2.2.2.2 t3
      rw [if_neg (fun h => h rfl)]
      rw [if_neg (by rintro (h | h | h)
                     · exact h t1
                     · rw [t2] at h; exact h nostr
                     · rw [h2, offs_len] at h; exact h hkk.2)]
      rw [h2]; exact hkk.1
    · rw [if_pos hk]
      by_cases k1 : kd = 1
      · rw [if_pos k1] at ht
        obtain ⟨t1, t2, t3⟩ := ht
        unfold leafT
        rw [if_neg (by rw [t2, t3, nostr]; simp; omega), if_pos k1, if_neg (by omega)]
      · rw [if_neg k1] at ht
        by_cases k2 : kd = 2
        · rw [if_pos k2] at ht
          obtain ⟨t1, t2, t3⟩ := ht
          unfold leafT
          rw [if_neg (by rw [t2, t3, nostr]; simp; omega), if_neg k1, if_pos k2, if_neg (by omega)]
        · rw [if_neg k2] at ht
          by_cases k3 : kd = 3
          · rw [if_pos k3] at ht
            obtain ⟨t1, t2, t3⟩ := ht
            unfold leafT
            rw [if_neg (by rw [t2, t3, nostr]; simp; omega), if_neg k1, if_neg k2, if_pos k3]
          · rw [if_neg k3] at ht
            have k4 : kd = 4 := by omega
            rw [if_pos k4] at ht
            obtain ⟨t1, t2, t3⟩ := ht
            unfold leafT
            rw [if_neg (by rw [t1, t3]; simp [k4]), if_neg k1, if_neg k2, if_neg k3, if_neg (by omega)]
theorem fit_okK {l : List Fl} {K : Int → List Int} : ∀ (ks : List Sh) (i : Nat) (xs : List (List Tr)), IxL l K i ks → GoodL ks → okK ks xs → fitK l K xs (offs i ks) = 0 ∧ xs.length = ks.length
  | [], i, xs, _, _, h => by rw [okK] at h; subst h; simp [fitK]
  | s :: r, i, [], _, _, h => by rw [okK] at h; exact h.elim
  | s :: r, i, x :: xs, hi, hg, h => by
    simp only [IxL] at hi
    simp only [GoodL] at hg
    rw [okK] at h
    obtain ⟨g1, g2, g3⟩ := h
    have h1 := fitX_ok (l := l) (K := K) (i := (i : Int)) x (fun t ht => fit_okT s i t hi.1 hg.1 (g2 t ht))
    have h2 := fit_okK r (i + s.size) xs hi.2 hg.2 g3
    have hf : (flAt l (i : Int)).rep = s.rep := by
      obtain ⟨nm, rp, kd, ks⟩ := s
      have := hi.1; simp only [Ix] at this
      simp [flAt, this.1, Sh.rep]
    have hr : repT s.rep x.length = 0 := by
      obtain ⟨nm, rp, kd, ks⟩ := s
      have := hg.1; simp only [GoodS] at this
      exact repT_ok g1
    simp only [offs, List.length_cons, h2.2]
    refine ⟨?_, trivial⟩
    rw [fitK_cons]
    simp only [List.headD_cons, List.tail_cons, fitA, hf, hr, h1]
    simpa using h2.1
end
end Go.Proofs.Ytibhcibcfommeaa
