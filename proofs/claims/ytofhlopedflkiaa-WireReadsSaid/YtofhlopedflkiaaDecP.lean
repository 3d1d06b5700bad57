/-
  Plain: records out of bytes. Plain: no front of records' bytes is records.
-/
import Derived.Test.YtofhlopedflkiaaWireP
set_option linter.unusedSimpArgs false
namespace Go.Proofs.Ytofhlopedflkiaa
open Go.RowKit Go.Shr
/-- What reading yields: an error's number, or a value and the bytes that are left. -/
abbrev Rd (α : Type) := Except Nat (α × List UInt8)
def rdBit : List UInt8 → Rd Nat
  | [] => .error 8
  | b :: r => if 1 < b.toNat then .error 10 else .ok (b.toNat, r)
def rdNum (most wrong : Nat) (bs : List UInt8) : Rd Nat :=
  if (vget bs).2.2 ≠ 0 then .error (vget bs).2.2 else if most < (vget bs).1 then .error wrong else .ok ((vget bs).1, bs.drop (vget bs).2.1)
def ofLe : List UInt8 → Nat
  | [] => 0
  | b :: r => b.toNat + 256 * ofLe r
def rdFix (n : Nat) (bs : List UInt8) : Rd Nat := if bs.length < n then .error 8 else .ok (ofLe (bs.take n), bs.drop n)
def rdStr (bs : List UInt8) : Rd ByteArray :=
  match rdNum 100 5 bs with
  | .error e => .error e
  | .ok (n, r) => if r.length < n then .error 8 else .ok (⟨(r.take n).toArray⟩, r.drop n)
def rdCnt (rep : Int) (bs : List UInt8) : Rd Nat := if rep = 1 then rdBit bs else if rep = 2 then rdNum 50 4 bs else .ok (1, bs)
def i32 (v : Nat) : Int := if v % 4294967296 < 2147483648 then ((v % 4294967296 : Nat) : Int) else ((v % 4294967296 : Nat) : Int) - 4294967296
def i64 (v : Nat) : Int := if v % 18446744073709551616 < 9223372036854775808 then ((v % 18446744073709551616 : Nat) : Int) else ((v % 18446744073709551616 : Nat) : Int) - 18446744073709551616
def rdMap {α β : Type} (f : α → β) : Rd α → Rd β
  | .error e => .error e
  | .ok (a, r) => .ok (f a, r)
def decX (f : List UInt8 → Rd Tr) : Nat → List UInt8 → Rd (List Tr)
  | 0, bs => .ok ([], bs)
  | n + 1, bs => match f bs with
    | .error e => .error e
    | .ok (t, r) => match decX f n r with
      | .error e => .error e
      | .ok (x, r2) => .ok (t :: x, r2)
mutual
/-- A field's value. -/
def decT : Sh → List UInt8 → Rd Tr
  | .mk _ _ kind ks, bs =>
    if kind = 1 then rdMap (fun (v : Nat) => .mk (v : Int) ⟨#[]⟩ []) (rdBit bs)
    else if kind = 2 then rdMap (fun v => .mk (i32 v) ⟨#[]⟩ []) (rdFix 4 bs)
    else if kind = 3 then rdMap (fun v => .mk (i64 v) ⟨#[]⟩ []) (rdFix 8 bs)
    else if kind = 4 then rdMap (fun s => .mk 0 s []) (rdStr bs)
    else rdMap (fun k => .mk 0 ⟨#[]⟩ k) (decK ks bs)
def decK : List Sh → List UInt8 → Rd (List (List Tr))
  | [], bs => .ok ([], bs)
  | s :: r, bs => match rdCnt s.rep bs with
    | .error e => .error e
    | .ok (n, b1) => match decX (decT s) n b1 with
      | .error e => .error e
      | .ok (x, b2) => match decK r b2 with
        | .error e => .error e
        | .ok (xs, b3) => .ok (x :: xs, b3)
end
/-- All that is there of a field. -/
def decA (s : Sh) (bs : List UInt8) : Rd (List Tr) :=
  match rdCnt s.rep bs with
  | .error e => .error e
  | .ok (n, b1) => decX (decT s) n b1
/-- Records, to the bytes' end. -/
def decR (s : Sh) (bs : List UInt8) : Except Nat (List Tr) :=
  match rdNum 200 4 bs with
  | .error e => .error e
  | .ok (n, r) => match decX (decT s) n r with
    | .error e => .error e
    | .ok (x, r2) => if 0 < r2.length then .error 9 else .ok x
theorem ofLe_leN : ∀ (n v : Nat), ofLe (leN n v) = v % 256 ^ n
  | 0, v => by simp [leN, ofLe, Nat.mod_one]
  | n + 1, v => by
    have h : (UInt8.ofNat (v % 256)).toNat = v % 256 := by simp
    rw [leN, ofLe, ofLe_leN n, h, Nat.pow_succ, Nat.mul_comm (256 ^ n) 256, Nat.mod_mul]
theorem rdFix_leN (n v : Nat) (rest : List UInt8) : rdFix n (leN n v ++ rest) = .ok (v % 256 ^ n, rest) := by
  have h := leN_len n v
  unfold rdFix
  rw [if_neg (by rw [List.length_append, h]; omega)]
  rw [List.take_left' h, List.drop_left' h]
  rw [ofLe_leN]
theorem rdNum_vput (most wrong v : Nat) (rest : List UInt8) (hm : v ≤ most) (hv : v < 18446744073709551616) : rdNum most wrong (vput v ++ rest) = .ok (v, rest) := by
  have h := vget_vput v rest hv
  unfold rdNum
  rw [h]
  dsimp only
  rw [if_neg (by decide), if_neg (by omega)]
  simp
theorem ba_mk (s : ByteArray) : (⟨s.toList.toArray⟩ : ByteArray) = s := by
  rw [ByteArray.toList_eq]
theorem rdStr_put (s : ByteArray) (rest : List UInt8) (h : s.size ≤ 100) : rdStr (vput s.size ++ s.toList ++ rest) = .ok (s, rest) := by
  unfold rdStr
  rw [List.append_assoc, rdNum_vput 100 5 s.size _ h (by omega)]
  have hl := str_len' s
  dsimp only
  rw [if_neg (by rw [List.length_append, hl]; omega)]
  have e1 : (s.toList ++ rest).take s.size = s.toList := by rw [← hl]; simp
  have e2 : (s.toList ++ rest).drop s.size = rest := by rw [← hl]; simp
  rw [e1, e2, ba_mk]
theorem rdCnt_put (rep : Int) (m : Nat) (rest : List UInt8) (h : okRep rep m) : rdCnt rep (markB rep m ++ rest) = .ok (m, rest) := by
  unfold okRep at h
  unfold rdCnt markB
  by_cases h1 : rep = 1
  · rw [if_pos h1] at h
    rw [if_pos h1, if_pos h1]
    have e : (UInt8.ofNat (m % 256)).toNat = m := by simp; omega
    simp only [List.singleton_append, rdBit, e]
    rw [if_neg (by omega)]
  · rw [if_neg h1] at h
    rw [if_neg h1, if_neg h1]
    by_cases h2 : rep = 2
    · rw [if_pos h2] at h
      rw [if_pos h2, if_pos h2]
      exact rdNum_vput 50 4 m rest h (by omega)
    · rw [if_neg h2] at h
      rw [if_neg h2, if_neg h2, h]; rfl
theorem decX_enc {f : List UInt8 → Rd Tr} {g : Tr → List UInt8} : ∀ (x : List Tr) (rest : List UInt8), (∀ t ∈ x, ∀ rest, f (g t ++ rest) = .ok (t, rest)) → decX f x.length (x.flatMap g ++ rest) = .ok (x, rest)
  | [], rest, _ => rfl
  | t :: x, rest, h => by
    rw [List.flatMap_cons, List.append_assoc, List.length_cons, decX, h t List.mem_cons_self]
    dsimp only
    rw [decX_enc x rest (fun t ht => h t (List.mem_cons_of_mem _ ht))]
theorem tr_eta (t : Tr) : Tr.mk t.n t.s t.kids = t := by cases t; rfl
mutual
theorem decT_enc : ∀ (s : Sh) (t : Tr) (rest : List UInt8), okT s t → decT s (encT s t ++ rest) = .ok (t, rest)
  | .mk nm rp kd ks, t, rest, h => by
    rw [okT] at h
    rw [encT, decT]
    by_cases k1 : kd = 1
    · rw [if_pos k1] at h
      rw [if_pos k1, if_pos k1]
      obtain ⟨h1, h2, h3⟩ := h
      have e : (UInt8.ofNat (u64 t.n % 256)).toNat = u64 t.n % 256 := by simp
      have hu : u64 t.n % 256 ≤ 1 ∧ ((u64 t.n % 256 : Nat) : Int) = t.n := by unfold u64; omega
      simp only [leN, List.singleton_append, rdBit, e]
      rw [if_neg (by omega)]
      simp only [rdMap, hu.2, ← h2, ← h3]
      rw [tr_eta]
    · rw [if_neg k1] at h
      rw [if_neg k1, if_neg k1]
      by_cases k2 : kd = 2
      · rw [if_pos k2] at h
        rw [if_pos k2, if_pos k2, rdFix_leN]
        obtain ⟨h1, h2, h3⟩ := h
        have hu : i32 (u64 t.n % 256 ^ 4) = t.n := by unfold i32 u64; split <;> omega
        simp only [rdMap, hu, ← h2, ← h3]
        rw [tr_eta]
      · rw [if_neg k2] at h
        rw [if_neg k2, if_neg k2]
        by_cases k3 : kd = 3
        · rw [if_pos k3] at h
          rw [if_pos k3, if_pos k3, rdFix_leN]
          obtain ⟨h1, h2, h3⟩ := h
          have hu : i64 (u64 t.n % 256 ^ 8) = t.n := by unfold i64 u64; split <;> omega
          simp only [rdMap, hu, ← h2, ← h3]
          rw [tr_eta]
        · rw [if_neg k3] at h
          rw [if_neg k3, if_neg k3]
          by_cases k4 : kd = 4
          · rw [if_pos k4] at h
            rw [if_pos k4, if_pos k4, rdStr_put _ _ h.2.1]
            obtain ⟨h1, h2, h3⟩ := h
            simp only [rdMap, ← h1, ← h3]
            rw [tr_eta]
          · rw [if_neg k4] at h
            rw [if_neg k4, if_neg k4, decK_enc ks t.kids rest h.2.2]
            obtain ⟨h1, h2, h3⟩ := h
            simp only [rdMap, ← h1, ← h2]
            rw [tr_eta]
theorem decK_enc : ∀ (ks : List Sh) (xs : List (List Tr)) (rest : List UInt8), okK ks xs → decK ks (encK ks xs ++ rest) = .ok (xs, rest)
  | [], xs, rest, h => by rw [okK] at h; subst h; rfl
  | s :: r, [], rest, h => by rw [okK] at h; exact h.elim
  | s :: r, x :: xs, rest, h => by
    rw [okK] at h
    rw [encK, decK, List.append_assoc, List.append_assoc, rdCnt_put _ _ _ h.1]
    dsimp only
    rw [decX_enc x _ (fun t ht rest => decT_enc s t rest (h.2.1 t ht))]
    dsimp only
    rw [decK_enc r xs rest h.2.2]
end
theorem encT_inj {s : Sh} {t u : Tr} (ht : okT s t) (hu : okT s u) (h : encT s t = encT s u) : t = u := by
  have h1 := decT_enc s t [] ht
  have h2 := decT_enc s u [] hu
  rw [h, h2] at h1
  injection h1 with h1
  injection h1 with h1 _
  exact h1.symm
theorem encR_one (s : Sh) (t : Tr) : encR s [t] = 1 :: encT s t := by
  have : vput 1 = [1] := by rw [vput_lt (by decide)]; rfl
  simp [encR, this]
theorem decR_enc (s : Sh) (l : List Tr) (hl : l.length ≤ 200) (h : ∀ t ∈ l, okT s t) : decR s (encR s l) = .ok l := by
  unfold decR encR
  rw [rdNum_vput 200 4 l.length _ hl (by omega)]
  dsimp only
  have := decX_enc (f := decT s) (g := encT s) l [] (fun t ht rest => decT_enc s t rest (h t ht))
  rw [List.append_nil] at this
  rw [this]
  rfl
end Go.Proofs.Ytofhlopedflkiaa
namespace Go.Shr
theorem vget_highs (l r : List UInt8) : ∀ (k acc : Nat), (∀ x ∈ l, 128 ≤ x.toNat) → k + l.length ≤ 9 → ∃ acc', vgetFrom k acc (l ++ r) = vgetFrom (k + l.length) acc' r := by
  induction l with
  | nil => exact fun k acc _ _ => ⟨acc, rfl⟩
  | cons x l ih =>
    intro k acc h hk
    have hx := h x (List.mem_cons_self ..)
    simp only [List.length_cons] at hk
    obtain ⟨acc', e⟩ := ih (k + 1) (acc + (x.toNat % 128) * 128 ^ k) (fun y hy => h y (List.mem_cons_of_mem _ hy)) (by omega)
    refine ⟨acc', ?_⟩
    rw [List.cons_append, vgetFrom, if_neg (by omega), if_neg (by omega), e, List.length_cons, show k + 1 + l.length = k + (l.length + 1) by omega]
theorem vput_highs (v : Nat) : ∀ x ∈ (vput v).dropLast, 128 ≤ x.toNat := by
  induction v using Nat.strongRecOn with
  | _ v ih =>
    by_cases h : v < 128
    · rw [vput_lt h]; intro x hx; cases hx
    · rw [vput_ge (by omega)]
      have hne : vput (v / 128) ≠ [] := by have := vput_pos (v / 128); intro e; rw [e] at this; simp at this
      rw [List.dropLast_cons_of_ne_nil hne]
      intro x hx
      rcases List.mem_cons.1 hx with rfl | hx
      · simp; omega
      · exact ih _ (by omega) x hx
theorem vget_front (v m : Nat) (hv : v < 18446744073709551616) (hm : m < (vput v).length) : vget ((vput v).take m) = (0, 0, 8) := by
  have hl := vput_len 9 v (by omega)
  have e0 : (vput v).take m = (vput v).dropLast.take m := by
    rw [List.dropLast_eq_take, List.take_take]; congr 1; omega
  obtain ⟨acc, e⟩ := vget_highs ((vput v).dropLast.take m) [] 0 0 (fun x hx => vput_highs v x (List.mem_of_mem_take hx)) (by simp; omega)
  rw [List.append_nil] at e
  rw [vget, e0, e]; rfl
end Go.Shr
namespace Go.Proofs.Ytofhlopedflkiaa
open Go.RowKit Go.Shr
theorem rdNum_front (most wrong v m : Nat) (hv : v < 18446744073709551616) (hm : m < (vput v).length) : rdNum most wrong ((vput v).take m) = .error 8 := by
  unfold rdNum
  rw [vget_front v m hv hm]
  rfl
theorem rdCnt_front (rep : Int) (c m : Nat) (h : okRep rep c) (hm : m < (markB rep c).length) : rdCnt rep ((markB rep c).take m) = .error 8 := by
  unfold okRep at h
  unfold markB at hm ⊢
  unfold rdCnt
  by_cases h1 : rep = 1
  · rw [if_pos h1] at hm ⊢
    rw [if_pos h1]
    simp at hm
    subst hm
    rfl
  · rw [if_neg h1] at h hm ⊢
    rw [if_neg h1]
    by_cases h2 : rep = 2
    · rw [if_pos h2] at h hm ⊢
      rw [if_pos h2]
      exact rdNum_front 50 4 c m (by omega) hm
    · rw [if_neg h2] at hm
      simp at hm
theorem rdFix_front (n v m : Nat) (hm : m < n) : rdFix n ((leN n v).take m) = .error 8 := by
  unfold rdFix
  rw [if_pos (by rw [List.length_take, leN_len]; omega)]
theorem take_two {α : Type} (a b : List α) (m : Nat) : (m < a.length ∧ (a ++ b).take m = a.take m) ∨ (a.length ≤ m ∧ (a ++ b).take m = a ++ b.take (m - a.length)) := by
  by_cases h : m < a.length
  · exact .inl ⟨h, by rw [List.take_append_of_le_length (by omega)]⟩
  · refine .inr ⟨by omega, ?_⟩
    rw [List.take_append, List.take_of_length_le (by omega)]
theorem rdStr_front (s : ByteArray) (m : Nat) (h : s.size ≤ 100) (hm : m < (vput s.size ++ s.toList).length) : rdStr ((vput s.size ++ s.toList).take m) = .error 8 := by
  have hl := str_len' s
  rw [List.length_append, hl] at hm
  unfold rdStr
  rcases take_two (vput s.size) s.toList m with ⟨h1, e⟩ | ⟨h1, e⟩
  · rw [e, rdNum_front 100 5 s.size m (by omega) h1]
  · rw [e, rdNum_vput 100 5 s.size _ h (by omega)]
    dsimp only
    rw [if_pos (by rw [List.length_take, hl]; omega)]
theorem decX_front {f : List UInt8 → Rd Tr} {g : Tr → List UInt8} : ∀ (x : List Tr) (m : Nat), (∀ t ∈ x, ∀ rest, f (g t ++ rest) = .ok (t, rest)) → (∀ t ∈ x, ∀ m, m < (g t).length → f ((g t).take m) = .error 8) → m < (x.flatMap g).length → decX f x.length ((x.flatMap g).take m) = .error 8
  | [], m, _, _, h => by simp at h
  | t :: x, m, h1, h2, hm => by
    rw [List.flatMap_cons] at hm ⊢
    rw [List.length_cons, decX]
    rcases take_two (g t) (x.flatMap g) m with ⟨h3, e⟩ | ⟨h3, e⟩
    · rw [e, h2 t List.mem_cons_self m h3]
    · rw [e, h1 t List.mem_cons_self]
      dsimp only
      rw [List.length_append] at hm
      rw [decX_front x _ (fun t ht => h1 t (List.mem_cons_of_mem _ ht)) (fun t ht => h2 t (List.mem_cons_of_mem _ ht)) (by omega)]
mutual
theorem decT_front : ∀ (s : Sh) (t : Tr) (m : Nat), okT s t → m < (encT s t).length → decT s ((encT s t).take m) = .error 8
  | .mk nm rp kd ks, t, m, h, hm => by
    rw [okT] at h
    rw [encT] at hm ⊢
    rw [decT]
    by_cases k1 : kd = 1
    · rw [if_pos k1] at hm ⊢
      rw [if_pos k1]
      rw [leN_len] at hm
      obtain rfl : m = 0 := by omega
      rfl
    · rw [if_neg k1] at h hm ⊢
      rw [if_neg k1]
      by_cases k2 : kd = 2
      · rw [if_pos k2] at hm ⊢
        rw [if_pos k2]
        rw [leN_len] at hm
        rw [rdFix_front 4 _ m hm]; rfl
      · rw [if_neg k2] at h hm ⊢
        rw [if_neg k2]
        by_cases k3 : kd = 3
        · rw [if_pos k3] at hm ⊢
          rw [if_pos k3]
          rw [leN_len] at hm
          rw [rdFix_front 8 _ m hm]; rfl
        · rw [if_neg k3] at h hm ⊢
          rw [if_neg k3]
          by_cases k4 : kd = 4
          · rw [if_pos k4] at h hm ⊢
            rw [if_pos k4]
            rw [rdStr_front _ m h.2.1 hm]; rfl
          · rw [if_neg k4] at h hm ⊢
            rw [if_neg k4]
            rw [decK_front ks t.kids m h.2.2 hm]; rfl
theorem decK_front : ∀ (ks : List Sh) (xs : List (List Tr)) (m : Nat), okK ks xs → m < (encK ks xs).length → decK ks ((encK ks xs).take m) = .error 8
  | [], xs, m, h, hm => by rw [okK] at h; subst h; simp [encK] at hm
  | s :: r, [], m, h, hm => by rw [okK] at h; exact h.elim
  | s :: r, x :: xs, m, h, hm => by
    rw [okK] at h
    rw [encK] at hm ⊢
    rw [decK]
    rw [List.append_assoc] at hm ⊢
    rcases take_two (markB s.rep x.length) (x.flatMap (encT s) ++ encK r xs) m with ⟨h3, e⟩ | ⟨h3, e⟩
    · rw [e, rdCnt_front _ _ m h.1 h3]
    · rw [e, rdCnt_put _ _ _ h.1]
      dsimp only
      rw [List.length_append] at hm
      rcases take_two (x.flatMap (encT s)) (encK r xs) (m - (markB s.rep x.length).length) with ⟨h4, e2⟩ | ⟨h4, e2⟩
      · rw [e2, decX_front x _ (fun t ht rest => decT_enc s t rest (h.2.1 t ht)) (fun t ht m hm => decT_front s t m (h.2.1 t ht) hm) h4]
      · rw [e2, decX_enc x _ (fun t ht rest => decT_enc s t rest (h.2.1 t ht))]
        dsimp only
        rw [List.length_append] at hm
        rw [decK_front r xs _ h.2.2 (by omega)]
end
theorem decR_front (s : Sh) (l : List Tr) (m : Nat) (hl : l.length ≤ 200) (h : ∀ t ∈ l, okT s t) (hm : m < (encR s l).length) : decR s ((encR s l).take m) = .error 8 := by
  unfold decR
  unfold encR at hm ⊢
  rcases take_two (vput l.length) (l.flatMap (encT s)) m with ⟨h3, e⟩ | ⟨h3, e⟩
  · rw [e, rdNum_front 200 4 _ m (by omega) h3]
  · rw [e, rdNum_vput 200 4 l.length _ hl (by omega)]
    dsimp only
    rw [List.length_append] at hm
    rw [decX_front l _ (fun t ht rest => decT_enc s t rest (h t ht)) (fun t ht m hm => decT_front s t m (h t ht) hm) (by omega)]
theorem decR_more (s : Sh) (l : List Tr) (more : List UInt8) (hl : l.length ≤ 200) (h : ∀ t ∈ l, okT s t) (hm : 0 < more.length) : decR s (encR s l ++ more) = .error 9 := by
  unfold decR encR
  rw [List.append_assoc, rdNum_vput 200 4 l.length _ hl (by omega)]
  dsimp only
  rw [decX_enc l more (fun t ht rest => decT_enc s t rest (h t ht))]
  dsimp only
  rw [if_pos hm]
end Go.Proofs.Ytofhlopedflkiaa
