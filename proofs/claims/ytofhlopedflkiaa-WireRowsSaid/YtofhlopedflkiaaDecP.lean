/-
  Plain: records out of bytes.
-/
import Derived.Test.YtofhlopedflkiaaWireP
set_option linter.unusedSimpArgs false
namespace Go.Proofs.Ytofhlopedflkiaa
open Go.RowKit Go.Shr
/-- What reading yields: an error's number, or a value and the bytes that are left. -/
abbrev Rd (α : Type) := Except Nat (α × List UInt8)
def rdBit : List UInt8 → Rd Nat
  | [] => .error 8
  | b :: r => if 1 < b.toNat then .error 10 else .ok (b.toNat, r)
def rdNum (most wrong : Nat) (bs : List UInt8) : Rd Nat :=
  if (vget bs).2.2 ≠ 0 then .error (vget bs).2.2 else if most < (vget bs).1 then .error wrong else .ok ((vget bs).1, bs.drop (vget bs).2.1)
def ofLe : List UInt8 → Nat
  | [] => 0
  | b :: r => b.toNat + 256 * ofLe r
def rdFix (n : Nat) (bs : List UInt8) : Rd Nat := if bs.length < n then .error 8 else .ok (ofLe (bs.take n), bs.drop n)
def rdStr (bs : List UInt8) : Rd ByteArray :=
  match rdNum 100 5 bs with
  | .error e => .error e
  | .ok (n, r) => if r.length < n then .error 8 else .ok (⟨(r.take n).toArray⟩, r.drop n)
def rdCnt (rep : Int) (bs : List UInt8) : Rd Nat := if rep = 1 then rdBit bs else if rep = 2 then rdNum 50 4 bs else .ok (1, bs)
def i32 (v : Nat) : Int := if v % 4294967296 < 2147483648 then ((v % 4294967296 : Nat) : Int) else ((v % 4294967296 : Nat) : Int) - 4294967296
def i64 (v : Nat) : Int := if v % 18446744073709551616 < 9223372036854775808 then ((v % 18446744073709551616 : Nat) : Int) else ((v % 18446744073709551616 : Nat) : Int) - 18446744073709551616
def rdMap {α β : Type} (f : α → β) : Rd α → Rd β
  | .error e => .error e
  | .ok (a, r) => .ok (f a, r)
def decX (f : List UInt8 → Rd Tr) : Nat → List UInt8 → Rd (List Tr)
  | 0, bs => .ok ([], bs)
  | n + 1, bs => match f bs with
    | .error e => .error e
    | .ok (t, r) => match decX f n r with
      | .error e => .error e
      | .ok (x, r2) => .ok (t :: x, r2)
mutual
/-- A field's value. -/
def decT : Sh → List UInt8 → Rd Tr
  | .mk _ _ kind ks, bs =>
    if kind = 1 then rdMap (fun (v : Nat) => .mk (v : Int) ⟨#[]⟩ []) (rdBit bs)
    else if kind = 2 then rdMap (fun v => .mk (i32 v) ⟨#[]⟩ []) (rdFix 4 bs)
    else if kind = 3 then rdMap (fun v => .mk (i64 v) ⟨#[]⟩ []) (rdFix 8 bs)
    else if kind = 4 then rdMap (fun s => .mk 0 s []) (rdStr bs)
    else rdMap (fun k => .mk 0 ⟨#[]⟩ k) (decK ks bs)
def decK : List Sh → List UInt8 → Rd (List (List Tr))
  | [], bs => .ok ([], bs)
  | s :: r, bs => match rdCnt s.rep bs with
    | .error e => .error e
    | .ok (n, b1) => match decX (decT s) n b1 with
      | .error e => .error e
      | .ok (x, b2) => match decK r b2 with
        | .error e => .error e
        | .ok (xs, b3) => .ok (x :: xs, b3)
end
/-- All that is there of a field. -/
def decA (s : Sh) (bs : List UInt8) : Rd (List Tr) :=
  match rdCnt s.rep bs with
  | .error e => .error e
  | .ok (n, b1) => decX (decT s) n b1
/-- Records, to the bytes' end. -/
def decR (s : Sh) (bs : List UInt8) : Except Nat (List Tr) :=
  match rdNum 200 4 bs with
  | .error e => .error e
  | .ok (n, r) => match decX (decT s) n r with
    | .error e => .error e
    | .ok (x, r2) => if 0 < r2.length then .error 9 else .ok x
theorem ofLe_leN : ∀ (n v : Nat), ofLe (leN n v) = v % 256 ^ n
  | 0, v => by simp [leN, ofLe, Nat.mod_one]
  | n + 1, v => by
    have h : (UInt8.ofNat (v % 256)).toNat = v % 256 := by simp
    rw [leN, ofLe, ofLe_leN n, h, Nat.pow_succ, Nat.mul_comm (256 ^ n) 256, Nat.mod_mul]
theorem rdFix_leN (n v : Nat) (rest : List UInt8) : rdFix n (leN n v ++ rest) = .ok (v % 256 ^ n, rest) := by
  have h := leN_len n v
  unfold rdFix
  rw [if_neg (by rw [List.length_append, h]; omega)]
  rw [List.take_left' h, List.drop_left' h]
  rw [ofLe_leN]
theorem rdNum_vput (most wrong v : Nat) (rest : List UInt8) (hm : v ≤ most) (hv : v < 18446744073709551616) : rdNum most wrong (vput v ++ rest) = .ok (v, rest) := by
  have h := vget_vput v rest hv
  unfold rdNum
  rw [h]
  dsimp only
  rw [if_neg (by decide), if_neg (by omega)]
  simp
theorem ba_mk (s : ByteArray) : (⟨s.toList.toArray⟩ : ByteArray) = s := by
  rw [ByteArray.toList_eq]
theorem rdStr_put (s : ByteArray) (rest : List UInt8) (h : s.size ≤ 100) : rdStr (vput s.size ++ s.toList ++ rest) = .ok (s, rest) := by
  unfold rdStr
  rw [List.append_assoc, rdNum_vput 100 5 s.size _ h (by omega)]
  have hl := str_len' s
  dsimp only
  rw [if_neg (by rw [List.length_append, hl]; omega)]
  have e1 : (s.toList ++ rest).take s.size = s.toList := by rw [← hl]; simp
  have e2 : (s.toList ++ rest).drop s.size = rest := by rw [← hl]; simp
  rw [e1, e2, ba_mk]
theorem rdCnt_put (rep : Int) (m : Nat) (rest : List UInt8) (h : okRep rep m) : rdCnt rep (markB rep m ++ rest) = .ok (m, rest) := by
  unfold okRep at h
  unfold rdCnt markB
  by_cases h1 : rep = 1
  · rw [if_pos h1] at h
    rw [if_pos h1, if_pos h1]
    have e : (UInt8.ofNat (m % 256)).toNat = m := by simp; omega
    simp only [List.singleton_append, rdBit, e]
    rw [if_neg (by omega)]
  · rw [if_neg h1] at h
    rw [if_neg h1, if_neg h1]
    by_cases h2 : rep = 2
    · rw [if_pos h2] at h
      rw [if_pos h2, if_pos h2]
      exact rdNum_vput 50 4 m rest h (by omega)
    · rw [if_neg h2] at h
      rw [if_neg h2, if_neg h2, h]; rfl
theorem decX_enc {f : List UInt8 → Rd Tr} {g : Tr → List UInt8} : ∀ (x : List Tr) (rest : List UInt8), (∀ t ∈ x, ∀ rest, f (g t ++ rest) = .ok (t, rest)) → decX f x.length (x.flatMap g ++ rest) = .ok (x, rest)
  | [], rest, _ => rfl
  | t :: x, rest, h => by
    rw [List.flatMap_cons, List.append_assoc, List.length_cons, decX, h t List.mem_cons_self]
    dsimp only
    rw [decX_enc x rest (fun t ht => h t (List.mem_cons_of_mem _ ht))]
theorem tr_eta (t : Tr) : Tr.mk t.n t.s t.kids = t := by cases t; rfl
mutual
theorem decT_enc : ∀ (s : Sh) (t : Tr) (rest : List UInt8), okT s t → decT s (encT s t ++ rest) = .ok (t, rest)
  | .mk nm rp kd ks, t, rest, h => by
    rw [okT] at h
    rw [encT, decT]
    by_cases k1 : kd = 1
    · rw [if_pos k1] at h
      rw [if_pos k1, if_pos k1]
      obtain ⟨h1, h2, h3⟩ := h
      have e : (UInt8.ofNat (u64 t.n % 256)).toNat = u64 t.n % 256 := by simp
      have hu : u64 t.n % 256 ≤ 1 ∧ ((u64 t.n % 256 : Nat) : Int) = t.n := by unfold u64; omega
      simp only [leN, List.singleton_append, rdBit, e]
      rw [if_neg (by omega)]
      simp only [rdMap, hu.2, ← h2, ← h3]
      rw [tr_eta]
    · rw [if_neg k1] at h
      rw [if_neg k1, if_neg k1]
      by_cases k2 : kd = 2
      · rw [if_pos k2] at h
        rw [if_pos k2, if_pos k2, rdFix_leN]
        obtain ⟨h1, h2, h3⟩ := h
        have hu : i32 (u64 t.n % 256 ^ 4) = t.n := by unfold i32 u64; split <;> omega
        simp only [rdMap, hu, ← h2, ← h3]
        rw [tr_eta]
      · rw [if_neg k2] at h
        rw [if_neg k2, if_neg k2]
        by_cases k3 : kd = 3
        · rw [if_pos k3] at h
          rw [if_pos k3, if_pos k3, rdFix_leN]
          obtain ⟨h1, h2, h3⟩ := h
          have hu : i64 (u64 t.n % 256 ^ 8) = t.n := by unfold i64 u64; split <;> omega
          simp only [rdMap, hu, ← h2, ← h3]
          rw [tr_eta]
        · rw [if_neg k3] at h
          rw [if_neg k3, if_neg k3]
          by_cases k4 : kd = 4
          · rw [if_pos k4] at h
            rw [if_pos k4, if_pos k4, rdStr_put _ _ h.2.1]
            obtain ⟨h1, h2, h3⟩ := h
            simp only [rdMap, ← h1, ← h3]
            rw [tr_eta]
          · rw [if_neg k4] at h
            rw [if_neg k4, if_neg k4, decK_enc ks t.kids rest h.2.2]
            obtain ⟨h1, h2, h3⟩ := h
            simp only [rdMap, ← h1, ← h2]
            rw [tr_eta]
theorem decK_enc : ∀ (ks : List Sh) (xs : List (List Tr)) (rest : List UInt8), okK ks xs → decK ks (encK ks xs ++ rest) = .ok (xs, rest)
  | [], xs, rest, h => by rw [okK] at h; subst h; rfl
  | s :: r, [], rest, h => by rw [okK] at h; exact h.elim
  | s :: r, x :: xs, rest, h => by
    rw [okK] at h
    rw [encK, decK, List.append_assoc, List.append_assoc, rdCnt_put _ _ _ h.1]
    dsimp only
    rw [decX_enc x _ (fun t ht rest => decT_enc s t rest (h.2.1 t ht))]
    dsimp only
    rw [decK_enc r xs rest h.2.2]
end
theorem encT_inj {s : Sh} {t u : Tr} (ht : okT s t) (hu : okT s u) (h : encT s t = encT s u) : t = u := by
  have h1 := decT_enc s t [] ht
  have h2 := decT_enc s u [] hu
  rw [h, h2] at h1
  injection h1 with h1
  injection h1 with h1 _
  exact h1.symm
theorem encR_one (s : Sh) (t : Tr) : encR s [t] = 1 :: encT s t := by
  have : vput 1 = [1] := by rw [vput_lt (by decide)]; rfl
  simp [encR, this]
theorem decR_enc (s : Sh) (l : List Tr) (hl : l.length ≤ 200) (h : ∀ t ∈ l, okT s t) : decR s (encR s l) = .ok l := by
  unfold decR encR
  rw [rdNum_vput 200 4 l.length _ hl (by omega)]
  dsimp only
  have := decX_enc (f := decT s) (g := encT s) l [] (fun t ht rest => decT_enc s t rest (h t ht))
  rw [List.append_nil] at this
  rw [this]
  rfl
end Go.Proofs.Ytofhlopedflkiaa
