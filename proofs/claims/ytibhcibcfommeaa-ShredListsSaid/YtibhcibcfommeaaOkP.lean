/-
  Plain: how great records are that are made of numbers. Plain: records that are made fit. Plain: trees that are records of a shape; they fit.
-/
import Derived.Test.YtibhcibcfommeaaMake8
import Derived.Test.YtibhcibcfommeaaSchG
set_option linter.unusedSimpArgs false
namespace Go.Proofs.Ytibhcibcfommeaa
open Go.RowKit Go.Shr
theorem mkX_size {f : Nat → Tr × Nat} {B : Nat} (h : ∀ k, (f k).1.size ≤ B) : ∀ (m k : Nat), sizeL (mkX f m k).1 ≤ m * B
  | 0, k => by simp [mkX, sizeL]
  | m + 1, k => by
    have h1 := mkX_size h m (f k).2
    have h2 := h k
    simp only [mkX, sizeL, Nat.add_mul, Nat.one_mul]; omega
theorem two_mul_le {x y : Nat} (hx : 2 ≤ x) (hy : 2 ≤ y) : x + y ≤ x * y := by
  obtain ⟨a, rfl⟩ : ∃ a, x = a + 2 := ⟨x - 2, by omega⟩
  obtain ⟨b, rfl⟩ : ∃ b, y = b + 2 := ⟨y - 2, by omega⟩
  rw [Nat.add_mul, Nat.mul_add, Nat.mul_add]
  generalize a * b = c
  omega
theorem pow4 (n : Nat) (h : 1 ≤ n) : 4 ≤ 4 ^ n := by
  obtain ⟨m, rfl⟩ : ∃ m, n = m + 1 := ⟨n - 1, by omega⟩
  have := Nat.pow_pos (n := m) (show 0 < 4 by decide)
  rw [Nat.pow_succ]; omega
theorem shsize_pos (s : Sh) : 1 ≤ s.size := by cases s; simp only [Sh.size]; omega
mutual
theorem mkT_size (ns : List Int) : ∀ (s : Sh) (k : Nat), (mkT ns s k).1.size ≤ 4 ^ s.size
  | .mk nm rp kd ks, k => by
    have h1 := mkK_size ns ks (nextA ns k)
    have h4 := pow4 (Sh.mk nm rp kd ks).size (shsize_pos _)
    have hl : ∀ n s, (Tr.mk n s []).size = 1 := fun n s => by simp [Tr.size, sizeLL]
    rw [mkT]
    split
    · dsimp only; rw [hl]; omega
    · split
      · dsimp only; rw [hl]; omega
      · split
        · dsimp only; rw [hl]; omega
        · split
          · dsimp only; rw [hl]; omega
          · simp only [Tr.size, Sh.size] at h4 ⊢
            have h5 := Nat.pow_pos (n := shSizes ks) (show 0 < 4 by decide)
            rw [Nat.add_comm 1 (shSizes ks), Nat.pow_succ]; omega
theorem mkK_size (ns : List Int) : ∀ (ks : List Sh) (k : Nat), sizeLL (mkK ns ks k).1 ≤ 3 * 4 ^ shSizes ks
  | [], k => by simp [mkK, sizeLL]
  | s :: r, k => by
    have h1 := mkX_size (mkT_size ns s) (cntOf ns s.rep k).1 (cntOf ns s.rep k).2
    have h2 := mkK_size ns r (mkX (mkT ns s) (cntOf ns s.rep k).1 (cntOf ns s.rep k).2).2
    have h3 := cntOf_le ns s.rep k
    have h4 := pow4 s.size (shsize_pos s)
    have h5 : (cntOf ns s.rep k).1 * 4 ^ s.size ≤ 3 * 4 ^ s.size := Nat.mul_le_mul_right _ h3
    simp only [mkK, sizeLL, shSizes]
    cases r with
    | nil => simp only [mkK, sizeLL, shSizes, Nat.add_zero] at h2 ⊢; omega
    | cons x q =>
      have h6 := pow4 (shSizes (x :: q)) (by have := shsize_pos x; simp only [shSizes]; omega)
      have h7 := two_mul_le (show 2 ≤ 4 ^ s.size by omega) (show 2 ≤ 4 ^ shSizes (x :: q) by omega)
      rw [Nat.pow_add]
      omega
end
theorem makeT_size (ns rs : List Int) : (makeT (makeSh ns) rs).size ≤ 1000000000 := by
  have h1 := mkT_size rs (makeSh ns) 0
  have h2 : (makeSh ns).size ≤ 14 := by rw [← flat_length, ← makeL_flat]; exact (make_len ns).2
  have h3 : 4 ^ (makeSh ns).size ≤ 4 ^ 14 := Nat.pow_le_pow_right (by decide) h2
  have h4 : 4 ^ 14 = 268435456 := by decide
  unfold makeT
  omega
end Go.Proofs.Ytibhcibcfommeaa
namespace Go.Proofs.Ytibhcibcfommeaa
open Go.RowKit Go.Shr
theorem fitX_nil_or {l : List Fl} {K : Int → List Int} {f : Nat → Tr × Nat} {i : Int} (h : ∀ k, fitT l K (f k).1 i = 0) : ∀ (m k : Nat), fitX l K (mkX f m k).1 i = 0
  | 0, k => by simp [mkX, fitX]
  | m + 1, k => by simp only [mkX, fitX, h k, fitX_nil_or h m (f k).2]; simp
theorem mkX_len {f : Nat → Tr × Nat} : ∀ (m k : Nat), (mkX f m k).1.length = m
  | 0, k => by simp [mkX]
  | m + 1, k => by simp [mkX, mkX_len m (f k).2]
theorem emod_bd (x : Int) {m : Int} (h : 0 < m) : 0 ≤ x % m ∧ x % m < m := ⟨Int.emod_nonneg _ (by omega), Int.emod_lt_of_pos _ h⟩
theorem cntOf_fit (ns : List Int) (rep : Int) (k : Nat) (h0 : 0 ≤ rep) (h2 : rep ≤ 2) : repT rep (cntOf ns rep k).1 = 0 := by
  have a1 := emod_bd (ns.getD k 0) (show (0 : Int) < 2 by decide)
  have a2 := emod_bd (ns.getD k 0) (show (0 : Int) < 4 by decide)
  unfold repT cntOf
  by_cases h : rep = 1
  · rw [if_pos h]; dsimp only; rw [if_neg (by omega), if_neg (by omega)]
  · rw [if_neg h]
    by_cases h' : rep = 2
    · rw [if_pos h']; dsimp only; rw [if_neg (by omega), if_neg (by omega)]
    · rw [if_neg h']; dsimp only; rw [if_neg (by omega), if_neg (by omega)]
theorem nostr : (⟨#[]⟩ : ByteArray).toList = [] := by decide +kernel
mutual
theorem fit_mkT {l : List Fl} {K : Int → List Int} (ns : List Int) : ∀ (s : Sh) (i : Nat) (k : Nat), Ix l K i s → GoodS s → fitT l K (mkT ns s k).1 i = 0
  | .mk nm rp kd ks, i, k, hi, hg => by
    simp only [Ix] at hi
    simp only [GoodS] at hg
    obtain ⟨h1, h2, h3⟩ := hi
    have hf : flAt l (i : Int) = ⟨nm, rp, kd, ks.length⟩ := by simp [flAt, h1]
    rw [fitT_eq, hf]
    dsimp only
    have a1 := emod_bd (ns.getD k 0) (show (0 : Int) < 2 by decide)
    have a2 := emod_bd (ns.getD k 0) (show (0 : Int) < 300 by decide)
    have a3 := emod_bd (ns.getD k 0) (show (0 : Int) < 9 by decide)
    by_cases hk : kd = 0
    · subst hk
      have e : (mkT ns (.mk nm rp 0 ks) k).1 = .mk 0 ⟨#[]⟩ (mkK ns ks (nextA ns k)).1 := by
        rw [mkT, if_neg (by decide), if_neg (by decide), if_neg (by decide), if_neg (by decide)]
      rw [e, if_neg (fun h => h rfl)]
      have hkk := fit_mkK ns ks (i + 1) (nextA ns k) h3 hg.2.2.2.2.2.2
      rw [if_neg (by rintro (h | h | h)
                     · exact h rfl
                     · exact h nostr
                     · rw [h2, offs_len] at h; exact h hkk.2)]
      show fitK l K (mkK ns ks (nextA ns k)).1 (K i) = 0
      rw [h2]; exact hkk.1
    · rw [if_pos hk, mkT]
      have hl : ∀ (n : Int) (s : ByteArray), ¬ ((kd = 4 ∧ n ≠ 0) ∨ (kd ≠ 4 ∧ s.toList ≠ [])) → leafT kd (Tr.mk n s []) = if kd = 1 then (if n < 0 ∨ 1 < n then 14 else 0) else if kd = 2 then (if n < -2147483648 ∨ 2147483647 < n then 14 else 0) else if kd = 3 then 0 else if 100 < s.size then 5 else 0 := fun n s h => by
        unfold leafT
        rw [if_neg (by simpa [Tr.n, Tr.s, Tr.kids] using h)]
        rfl
      by_cases k1 : kd = 1
      · rw [if_pos k1]; dsimp only; rw [hl _ _ (by rw [nostr]; simp; omega), if_pos k1, if_neg (by omega)]
      · rw [if_neg k1]
        by_cases k2 : kd = 2
        · rw [if_pos k2]; dsimp only; rw [hl _ _ (by rw [nostr]; simp; omega), if_neg k1, if_pos k2, if_neg (by omega)]
        · rw [if_neg k2]
          by_cases k3 : kd = 3
          · rw [if_pos k3]; dsimp only; rw [hl _ _ (by rw [nostr]; simp; omega), if_neg k1, if_neg k2, if_pos k3]
          · rw [if_neg k3]
            have k4 : kd = 4 := by omega
            rw [if_pos k4]; dsimp only
            have hsz : (abc.extract 0 (ns.getD k 0 % 9).toNat).size ≤ 100 := by
              rw [ByteArray.size_extract]; have : abc.size = 12 := by decide
              omega
            rw [hl _ _ (by simp [k4]), if_neg k1, if_neg k2, if_neg k3, if_neg (by omega)]
theorem fit_mkK {l : List Fl} {K : Int → List Int} (ns : List Int) : ∀ (ks : List Sh) (i : Nat) (k : Nat), IxL l K i ks → GoodL ks → fitK l K (mkK ns ks k).1 (offs i ks) = 0 ∧ (mkK ns ks k).1.length = ks.length
  | [], i, k, _, _ => by simp [mkK, fitK]
  | s :: r, i, k, hi, hg => by
    simp only [IxL] at hi
    simp only [GoodL] at hg
    have h1 := fitX_nil_or (f := mkT ns s) (fun k => fit_mkT ns s i k hi.1 hg.1) (cntOf ns s.rep k).1 (cntOf ns s.rep k).2
    have h2 := fit_mkK ns r (i + s.size) (mkX (mkT ns s) (cntOf ns s.rep k).1 (cntOf ns s.rep k).2).2 hi.2 hg.2
    have hf : (flAt l (i : Int)).rep = s.rep := by
      obtain ⟨nm, rp, kd, ks⟩ := s
      have := hi.1; simp only [Ix] at this
      simp [flAt, this.1, Sh.rep]
    have hr : repT s.rep (cntOf ns s.rep k).1 = 0 := by
      obtain ⟨nm, rp, kd, ks⟩ := s
      have := hg.1; simp only [GoodS] at this
      exact cntOf_fit ns rp k this.1 this.2.1
    simp only [mkK, offs, List.length_cons, h2.2]
    refine ⟨?_, trivial⟩
    rw [fitK_cons]
    simp only [List.headD_cons, List.tail_cons, fitA, hf, mkX_len, hr, h1]
    simpa using h2.1
end
theorem Sch.fit {l : List Fl} {sh : Sh} (h : Sch l sh) (ns : List Int) : fitT l (KF l) (makeT sh ns) 0 = 0 := fit_mkT ns sh 0 0 h.ix h.good
end Go.Proofs.Ytibhcibcfommeaa
namespace Go.Proofs.Ytibhcibcfommeaa
open Go.RowKit Go.Shr
/-- How often a field may be there. -/
def okRep (rep : Int) (m : Nat) : Prop := if rep = 1 then m ≤ 1 else if rep = 2 then m ≤ 50 else m = 1
mutual
/-- A tree that is a record. -/
def okT : Sh → Tr → Prop
  | .mk _ _ kind ks, t =>
    if kind = 1 then (t.n = 0 ∨ t.n = 1) ∧ t.s = ⟨#[]⟩ ∧ t.kids = []
    else if kind = 2 then (-2147483648 ≤ t.n ∧ t.n ≤ 2147483647) ∧ t.s = ⟨#[]⟩ ∧ t.kids = []
    else if kind = 3 then (-9223372036854775808 ≤ t.n ∧ t.n ≤ 9223372036854775807) ∧ t.s = ⟨#[]⟩ ∧ t.kids = []
    else if kind = 4 then t.n = 0 ∧ t.s.size ≤ 100 ∧ t.kids = []
    else t.n = 0 ∧ t.s = ⟨#[]⟩ ∧ okK ks t.kids
def okK : List Sh → List (List Tr) → Prop
  | [], xs => xs = []
  | _ :: _, [] => False
  | s :: r, x :: xs => okRep s.rep x.length ∧ (∀ t ∈ x, okT s t) ∧ okK r xs
end
theorem mkX_mem {f : Nat → Tr × Nat} {Q : Tr → Prop} (h : ∀ k, Q (f k).1) : ∀ (m k : Nat), ∀ t ∈ (mkX f m k).1, Q t
  | 0, k, t, ht => by simp [mkX] at ht
  | m + 1, k, t, ht => by
    simp only [mkX, List.mem_cons] at ht
    rcases ht with rfl | ht
    · exact h k
    · exact mkX_mem h m _ t ht
theorem getD_wf {ns : List Int} (h : ∀ z ∈ ns, (Lit.int .i64 z).wf = true) (k : Nat) : -9223372036854775808 ≤ ns.getD k 0 ∧ ns.getD k 0 ≤ 9223372036854775807 := by
  rw [List.getD_eq_getElem?_getD]
  cases hk : ns[k]? with
  | none => simp
  | some z =>
    have := h z (List.mem_of_getElem? hk)
    simp [Lit.wf, IntKind.min, IntKind.max, IntKind.bits, IntKind.signed] at this
    simp; omega
theorem cntOf_ok (ns : List Int) (rep : Int) (k : Nat) : okRep rep (cntOf ns rep k).1 := by
  have a1 := emod_bd (ns.getD k 0) (show (0 : Int) < 2 by decide)
  have a2 := emod_bd (ns.getD k 0) (show (0 : Int) < 4 by decide)
  unfold okRep cntOf
  by_cases h : rep = 1
  · rw [if_pos h, if_pos h]; dsimp only; omega
  · rw [if_neg h, if_neg h]
    by_cases h' : rep = 2
    · rw [if_pos h', if_pos h']; dsimp only; omega
    · rw [if_neg h', if_neg h']
mutual
theorem ok_mkT {ns : List Int} (hw : ∀ z ∈ ns, (Lit.int .i64 z).wf = true) : ∀ (s : Sh) (k : Nat), okT s (mkT ns s k).1
  | .mk nm rp kd ks, k => by
    have a1 := emod_bd (ns.getD k 0) (show (0 : Int) < 2 by decide)
    have a2 := emod_bd (ns.getD k 0) (show (0 : Int) < 300 by decide)
    have a3 := emod_bd (ns.getD k 0) (show (0 : Int) < 9 by decide)
    have a4 := getD_wf hw k
    rw [mkT, okT]
    by_cases k1 : kd = 1
    · rw [if_pos k1, if_pos k1]; exact ⟨by simp only [Tr.n]; omega, rfl, rfl⟩
    · rw [if_neg k1, if_neg k1]
      by_cases k2 : kd = 2
      · rw [if_pos k2, if_pos k2]; exact ⟨by simp only [Tr.n]; omega, rfl, rfl⟩
      · rw [if_neg k2, if_neg k2]
        by_cases k3 : kd = 3
        · rw [if_pos k3, if_pos k3]; exact ⟨a4, rfl, rfl⟩
        · rw [if_neg k3, if_neg k3]
          by_cases k4 : kd = 4
          · rw [if_pos k4, if_pos k4]
            refine ⟨rfl, ?_, rfl⟩
            have : abc.size = 12 := by decide
            simp only [Tr.s, ByteArray.size_extract]; omega
          · rw [if_neg k4, if_neg k4]
            exact ⟨rfl, rfl, ok_mkK hw ks _⟩
theorem ok_mkK {ns : List Int} (hw : ∀ z ∈ ns, (Lit.int .i64 z).wf = true) : ∀ (ks : List Sh) (k : Nat), okK ks (mkK ns ks k).1
  | [], k => by simp [mkK, okK]
  | s :: r, k => by
    simp only [mkK, okK, mkX_len]
    exact ⟨cntOf_ok ns s.rep k, mkX_mem (fun k => ok_mkT hw s k) _ _, ok_mkK hw r _⟩
end
theorem ok_make {ns : List Int} (hw : ∀ z ∈ ns, (Lit.int .i64 z).wf = true) (sh : Sh) : okT sh (makeT sh ns) := ok_mkT hw sh 0
theorem repT_ok {rep : Int} {m : Nat} (h : okRep rep m) : repT rep m = 0 := by
  unfold okRep at h
  unfold repT
  by_cases h1 : rep = 1
  · rw [if_pos h1] at h
    rw [if_neg (by omega), if_neg (by omega)]
  · rw [if_neg h1] at h
    by_cases h3 : rep = 2
    · rw [if_pos h3] at h
      rw [if_neg (by omega), if_neg (by omega)]
    · rw [if_neg h3] at h
      rw [if_neg (by omega), if_neg (by omega)]
theorem fitX_ok {l : List Fl} {K : Int → List Int} {i : Int} : ∀ (x : List Tr), (∀ t ∈ x, fitT l K t i = 0) → fitX l K x i = 0
  | [], _ => by simp [fitX]
  | t :: r, h => by
    have h1 := h t List.mem_cons_self
    have h2 := fitX_ok r (fun t ht => h t (List.mem_cons_of_mem _ ht))
    simp only [fitX, h1, h2]; simp
mutual
theorem fit_okT {l : List Fl} {K : Int → List Int} : ∀ (s : Sh) (i : Nat) (t : Tr), Ix l K i s → GoodS s → okT s t → fitT l K t i = 0
  | .mk nm rp kd ks, i, t, hi, hg, ht => by
    simp only [Ix] at hi
    simp only [GoodS] at hg
    obtain ⟨h1, h2, h3⟩ := hi
    have hf : flAt l (i : Int) = ⟨nm, rp, kd, ks.length⟩ := by simp [flAt, h1]
    rw [fitT_eq, hf]
    rw [okT] at ht
    dsimp only
    by_cases hk : kd = 0
    · subst hk
      rw [if_neg (by decide), if_neg (by decide), if_neg (by decide), if_neg (by decide)] at ht
      obtain ⟨t1, t2, t3⟩ := ht
      have hkk := fit_okK ks (i + 1) t.kids h3 hg.2.2.2.2.2.2 t3
      rw [if_neg (fun h => h rfl)]
      rw [if_neg (by rintro (h | h | h)
                     · exact h t1
                     · rw [t2] at h; exact h nostr
                     · rw [h2, offs_len] at h; exact h hkk.2)]
      rw [h2]; exact hkk.1
    · rw [if_pos hk]
      by_cases k1 : kd = 1
      · rw [if_pos k1] at ht
        obtain ⟨t1, t2, t3⟩ := ht
        unfold leafT
        rw [if_neg (by rw [t2, t3, nostr]; simp; omega), if_pos k1, if_neg (by omega)]
      · rw [if_neg k1] at ht
        by_cases k2 : kd = 2
        · rw [if_pos k2] at ht
          obtain ⟨t1, t2, t3⟩ := ht
          unfold leafT
          rw [if_neg (by rw [t2, t3, nostr]; simp; omega), if_neg k1, if_pos k2, if_neg (by omega)]
        · rw [if_neg k2] at ht
          by_cases k3 : kd = 3
          · rw [if_pos k3] at ht
            obtain ⟨t1, t2, t3⟩ := ht
            unfold leafT
            rw [if_neg (by rw [t2, t3, nostr]; simp; omega), if_neg k1, if_neg k2, if_pos k3]
          · rw [if_neg k3] at ht
            have k4 : kd = 4 := by omega
            rw [if_pos k4] at ht
            obtain ⟨t1, t2, t3⟩ := ht
            unfold leafT
            rw [if_neg (by rw [t1, t3]; simp [k4]), if_neg k1, if_neg k2, if_neg k3, if_neg (by omega)]
theorem fit_okK {l : List Fl} {K : Int → List Int} : ∀ (ks : List Sh) (i : Nat) (xs : List (List Tr)), IxL l K i ks → GoodL ks → okK ks xs → fitK l K xs (offs i ks) = 0 ∧ xs.length = ks.length
  | [], i, xs, _, _, h => by rw [okK] at h; subst h; simp [fitK]
  | s :: r, i, [], _, _, h => by rw [okK] at h; exact h.elim
  | s :: r, i, x :: xs, hi, hg, h => by
    simp only [IxL] at hi
    simp only [GoodL] at hg
    rw [okK] at h
    obtain ⟨g1, g2, g3⟩ := h
    have h1 := fitX_ok (l := l) (K := K) (i := (i : Int)) x (fun t ht => fit_okT s i t hi.1 hg.1 (g2 t ht))
    have h2 := fit_okK r (i + s.size) xs hi.2 hg.2 g3
    have hf : (flAt l (i : Int)).rep = s.rep := by
      obtain ⟨nm, rp, kd, ks⟩ := s
      have := hi.1; simp only [Ix] at this
      simp [flAt, this.1, Sh.rep]
    have hr : repT s.rep x.length = 0 := by
      obtain ⟨nm, rp, kd, ks⟩ := s
      have := hg.1; simp only [GoodS] at this
      exact repT_ok g1
    simp only [offs, List.length_cons, h2.2]
    refine ⟨?_, trivial⟩
    rw [fitK_cons]
    simp only [List.headD_cons, List.tail_cons, fitA, hf, hr, h1]
    simpa using h2.1
end
end Go.Proofs.Ytibhcibcfommeaa
