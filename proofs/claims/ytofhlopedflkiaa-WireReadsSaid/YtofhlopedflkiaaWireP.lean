/-
  Plain: records as bytes.
-/
import Derived.Test.YtofhlopedflkiaaFitMk
import Derived.Test.YtofhlopedflkiaaPlain
set_option linter.unusedSimpArgs false
namespace Go.Proofs.Ytofhlopedflkiaa
open Go.RowKit Go.Shr
/-- A number's lowest bytes. -/
def leN : Nat → Nat → List UInt8
  | 0, _ => []
  | n + 1, v => UInt8.ofNat (v % 256) :: leN n (v / 256)
theorem leN_len : ∀ (n v : Nat), (leN n v).length = n
  | 0, _ => rfl
  | n + 1, v => by simp [leN, leN_len n]
theorem leN_snoc : ∀ (n v : Nat), leN (n + 1) v = leN n v ++ [UInt8.ofNat (v / 256 ^ n % 256)]
  | 0, v => by simp [leN]
  | n + 1, v => by
    have h := leN_snoc n (v / 256)
    rw [leN, h, leN, List.cons_append, Nat.div_div_eq_div_mul, Nat.pow_succ, Nat.mul_comm 256]
def u64 (n : Int) : Nat := (n % 18446744073709551616).toNat
theorem u64_lt (n : Int) : u64 n < 18446744073709551616 := by unfold u64; omega
/-- How often a field is there. -/
def markB (rep : Int) (m : Nat) : List UInt8 := if rep = 1 then [UInt8.ofNat (m % 256)] else if rep = 2 then vput m else []
mutual
/-- A field's value. -/
def encT : Sh → Tr → List UInt8
  | .mk _ _ kind ks, t =>
    if kind = 1 then leN 1 (u64 t.n) else if kind = 2 then leN 4 (u64 t.n) else if kind = 3 then leN 8 (u64 t.n)
    else if kind = 4 then vput t.s.size ++ t.s.toList
    else encK ks t.kids
def encK : List Sh → List (List Tr) → List UInt8
  | [], _ => []
  | _ :: _, [] => []
  | s :: r, x :: xs => (markB s.rep x.length ++ x.flatMap (encT s)) ++ encK r xs
end
/-- All that is there of a field. -/
def encA (s : Sh) (x : List Tr) : List UInt8 := markB s.rep x.length ++ x.flatMap (encT s)
theorem encK_cons (s : Sh) (r : List Sh) (x : List Tr) (xs : List (List Tr)) : encK (s :: r) (x :: xs) = encA s x ++ encK r xs := by rw [encK, encA]
def encR (s : Sh) (l : List Tr) : List UInt8 := vput l.length ++ l.flatMap (encT s)
/-- How often a field may be there. -/
def okRep (rep : Int) (m : Nat) : Prop := if rep = 1 then m ≤ 1 else if rep = 2 then m ≤ 50 else m = 1
mutual
/-- A tree that is a record. -/
def okT : Sh → Tr → Prop
  | .mk _ _ kind ks, t =>
    if kind = 1 then (t.n = 0 ∨ t.n = 1) ∧ t.s = ⟨#[]⟩ ∧ t.kids = []
    else if kind = 2 then (-2147483648 ≤ t.n ∧ t.n ≤ 2147483647) ∧ t.s = ⟨#[]⟩ ∧ t.kids = []
    else if kind = 3 then (-9223372036854775808 ≤ t.n ∧ t.n ≤ 9223372036854775807) ∧ t.s = ⟨#[]⟩ ∧ t.kids = []
    else if kind = 4 then t.n = 0 ∧ t.s.size ≤ 100 ∧ t.kids = []
    else t.n = 0 ∧ t.s = ⟨#[]⟩ ∧ okK ks t.kids
def okK : List Sh → List (List Tr) → Prop
  | [], xs => xs = []
  | _ :: _, [] => False
  | s :: r, x :: xs => okRep s.rep x.length ∧ (∀ t ∈ x, okT s t) ∧ okK r xs
end
theorem mkX_mem {f : Nat → Tr × Nat} {Q : Tr → Prop} (h : ∀ k, Q (f k).1) : ∀ (m k : Nat), ∀ t ∈ (mkX f m k).1, Q t
  | 0, k, t, ht => by simp [mkX] at ht
  | m + 1, k, t, ht => by
    simp only [mkX, List.mem_cons] at ht
    rcases ht with rfl | ht
    · exact h k
    · exact mkX_mem h m _ t ht
theorem getD_wf {ns : List Int} (h : ∀ z ∈ ns, (Lit.int .i64 z).wf = true) (k : Nat) : -9223372036854775808 ≤ ns.getD k 0 ∧ ns.getD k 0 ≤ 9223372036854775807 := by
  rw [List.getD_eq_getElem?_getD]
  cases hk : ns[k]? with
  | none => simp
  | some z =>
    have := h z (List.mem_of_getElem? hk)
    simp [Lit.wf, IntKind.min, IntKind.max, IntKind.bits, IntKind.signed] at this
    simp; omega
theorem cntOf_ok (ns : List Int) (rep : Int) (k : Nat) : okRep rep (cntOf ns rep k).1 := by
  have a1 := emod_bd (ns.getD k 0) (show (0 : Int) < 2 by decide)
  have a2 := emod_bd (ns.getD k 0) (show (0 : Int) < 4 by decide)
  unfold okRep cntOf
  by_cases h : rep = 1
  · rw [if_pos h, if_pos h]; dsimp only; omega
  · rw [if_neg h, if_neg h]
    by_cases h' : rep = 2
    · rw [if_pos h', if_pos h']; dsimp only; omega
    · rw [if_neg h', if_neg h']
mutual
theorem ok_mkT {ns : List Int} (hw : ∀ z ∈ ns, (Lit.int .i64 z).wf = true) : ∀ (s : Sh) (k : Nat), okT s (mkT ns s k).1
  | .mk nm rp kd ks, k => by
    have a1 := emod_bd (ns.getD k 0) (show (0 : Int) < 2 by decide)
    have a2 := emod_bd (ns.getD k 0) (show (0 : Int) < 300 by decide)
    have a3 := emod_bd (ns.getD k 0) (show (0 : Int) < 9 by decide)
    have a4 := getD_wf hw k
    rw [mkT, okT]
    by_cases k1 : kd = 1
    · rw [if_pos k1, if_pos k1]; exact ⟨by simp only [Tr.n]; omega, rfl, rfl⟩
    · rw [if_neg k1, if_neg k1]
      by_cases k2 : kd = 2
      · rw [if_pos k2, if_pos k2]; exact ⟨by simp only [Tr.n]; omega, rfl, rfl⟩
      · rw [if_neg k2, if_neg k2]
        by_cases k3 : kd = 3
        · rw [if_pos k3, if_pos k3]; exact ⟨a4, rfl, rfl⟩
        · rw [if_neg k3, if_neg k3]
          by_cases k4 : kd = 4
          · rw [if_pos k4, if_pos k4]
            refine ⟨rfl, ?_, rfl⟩
            have : abc.size = 12 := by decide
            simp only [Tr.s, ByteArray.size_extract]; omega
          · rw [if_neg k4, if_neg k4]
            exact ⟨rfl, rfl, ok_mkK hw ks _⟩
theorem ok_mkK {ns : List Int} (hw : ∀ z ∈ ns, (Lit.int .i64 z).wf = true) : ∀ (ks : List Sh) (k : Nat), okK ks (mkK ns ks k).1
  | [], k => by simp [mkK, okK]
  | s :: r, k => by
    simp only [mkK, okK, mkX_len]
    exact ⟨cntOf_ok ns s.rep k, mkX_mem (fun k => ok_mkT hw s k) _ _, ok_mkK hw r _⟩
end
theorem ok_make {ns : List Int} (hw : ∀ z ∈ ns, (Lit.int .i64 z).wf = true) (sh : Sh) : okT sh (makeT sh ns) := ok_mkT hw sh 0
/-- How many bytes there are at most: of trees that are records. -/
theorem flat_bound {f : Tr → List UInt8} {g : Tr → Nat} : ∀ (x : List Tr), (∀ t ∈ x, (f t).length ≤ g t) → (x.flatMap f).length ≤ (x.map g).sum
  | [], _ => by simp
  | t :: r, h => by
    have h1 := h t List.mem_cons_self
    have h2 := flat_bound r (fun y hy => h y (List.mem_cons_of_mem _ hy))
    simp only [List.flatMap_cons, List.length_append, List.map_cons, List.sum_cons]; omega
theorem sizeL_sum : ∀ (x : List Tr), sizeL x = (x.map Tr.size).sum
  | [] => rfl
  | t :: r => by simp [sizeL, sizeL_sum r]
theorem sum_mul (c : Nat) : ∀ (x : List Tr), (x.map (fun t => c * t.size)).sum = c * (x.map Tr.size).sum
  | [] => by simp
  | t :: r => by simp [sum_mul c r, Nat.mul_add]
theorem markB_len (rep : Int) (m : Nat) (h : okRep rep m) : (markB rep m).length ≤ 10 := by
  unfold markB
  unfold okRep at h
  by_cases h1 : rep = 1
  · rw [if_pos h1]; simp
  · rw [if_neg h1] at h ⊢
    by_cases h2 : rep = 2
    · rw [if_pos h2] at h ⊢
      have := vput_len 9 m (by omega)
      exact this
    · rw [if_neg h2]; simp
theorem str_len' (s : ByteArray) : s.toList.length = s.size := str_len s
mutual
theorem encT_len : ∀ (s : Sh) (t : Tr), okT s t → (encT s t).length ≤ 110 * s.size * t.size
  | .mk nm rp kd ks, t, h => by
    have hp : 110 * 1 ≤ 110 * (Sh.mk nm rp kd ks).size * t.size := by
      rw [Nat.mul_assoc]
      refine Nat.mul_le_mul_left _ ?_
      have h1 : 1 ≤ (Sh.mk nm rp kd ks).size := by simp only [Sh.size]; omega
      have h2 : 1 ≤ t.size := by cases t; simp only [Tr.size]; omega
      exact Nat.mul_le_mul h1 h2
    rw [okT] at h
    rw [encT]
    by_cases k1 : kd = 1
    · rw [if_pos k1, leN_len]; omega
    · rw [if_neg k1] at h ⊢
      by_cases k2 : kd = 2
      · rw [if_pos k2, leN_len]; omega
      · rw [if_neg k2] at h ⊢
        by_cases k3 : kd = 3
        · rw [if_pos k3, leN_len]; omega
        · rw [if_neg k3] at h ⊢
          by_cases k4 : kd = 4
          · rw [if_pos k4] at h ⊢
            have h5 := vput_len 9 t.s.size (by omega)
            rw [List.length_append, str_len']; omega
          · rw [if_neg k4] at h ⊢
            have h6 := encK_len ks t.kids h.2.2
            have h7 : t.size = 1 + sizeLL t.kids := by cases t; rfl
            rw [h7]
            simp only [Sh.size]
            refine Nat.le_trans h6 ?_
            have : 110 * shSizes ks * (1 + sizeLL t.kids) ≤ 110 * (1 + shSizes ks) * (1 + sizeLL t.kids) := Nat.mul_le_mul_right _ (by omega)
            exact this
theorem encK_len : ∀ (ks : List Sh) (xs : List (List Tr)), okK ks xs → (encK ks xs).length ≤ 110 * shSizes ks * (1 + sizeLL xs)
  | [], xs, _ => by simp [encK]
  | s :: r, [], _ => by simp [encK]
  | s :: r, x :: xs, h => by
    rw [okK] at h
    have h1 := markB_len s.rep x.length h.1
    have h2 := flat_bound (f := encT s) (g := fun t => (110 * s.size) * t.size) x (fun t ht => encT_len s t (h.2.1 t ht))
    rw [sum_mul, ← sizeL_sum] at h2
    have h3 := encK_len r xs h.2.2
    rw [encK, List.length_append, List.length_append]
    simp only [shSizes, sizeLL]
    have hs := shsize_pos s
    generalize s.size = S at *
    generalize shSizes r = R at *
    generalize sizeL x = X at *
    generalize sizeLL xs = Y at *
    have e : 110 * (S + R) * (1 + (X + Y)) = 110 * S + 110 * S * X + 110 * S * Y + (110 * R * (1 + Y) + 110 * R * X) := by
      simp only [Nat.mul_add, Nat.add_mul, Nat.mul_one, Nat.one_mul, Nat.mul_assoc]; omega
    rw [e]
    omega
end
theorem makeSh_size (ns : List Int) : (makeSh ns).size ≤ 14 := by rw [← flat_length, ← makeL_flat]; exact (make_len ns).2
theorem makeT_size' (ns rs : List Int) : (makeT (makeSh ns) rs).size ≤ 268435456 := by
  have h1 := mkT_size rs (makeSh ns) 0
  have h3 : 4 ^ (makeSh ns).size ≤ 4 ^ 14 := Nat.pow_le_pow_right (by decide) (makeSh_size ns)
  have h4 : 4 ^ 14 = 268435456 := by decide
  unfold makeT
  omega
theorem encT_make {ns rs : List Int} (hw : ∀ z ∈ rs, (Lit.int .i64 z).wf = true) : (encT (makeSh ns) (makeT (makeSh ns) rs)).length ≤ 420000000000 := by
  have h1 := encT_len _ _ (ok_make hw (makeSh ns))
  have h2 := makeSh_size ns
  have h3 := makeT_size' ns rs
  refine Nat.le_trans h1 ?_
  have : 110 * (makeSh ns).size * (makeT (makeSh ns) rs).size ≤ 110 * 14 * 268435456 := Nat.mul_le_mul (Nat.mul_le_mul_left _ h2) h3
  omega
end Go.Proofs.Ytofhlopedflkiaa
