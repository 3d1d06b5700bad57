/-
  Plain: bytes as cells, varints. No program in sight.
-/
import Derived.Test.YtibhcibcfommeaaBase
namespace Go.Shr
open Go.RowKit

/-- Bytes as cells. -/
def u8s (l : List UInt8) : List Value := l.map fun b => Value.int .u8 b.toNat
theorem u8s_one (l : List UInt8) : ∀ u ∈ u8s l, u.oneCell' = true := by
  intro u hu
  obtain ⟨_, _, rfl⟩ := List.mem_map.1 hu
  rfl
@[simp] theorem u8s_length (l : List UInt8) : (u8s l).length = l.length := by simp [u8s]
theorem u8s_append (a b : List UInt8) : u8s (a ++ b) = u8s a ++ u8s b := by simp [u8s]
theorem u8s_get (l : List UInt8) (k : Nat) (h : k < l.length) : (u8s l)[k]? = some (.int .u8 l[k].toNat) := by simp [u8s, h]

/-- The document's varint, byte by byte. -/
def vput (v : Nat) : List UInt8 :=
  if h : v < 128 then [UInt8.ofNat v] else UInt8.ofNat (v % 128 + 128) :: vput (v / 128)
termination_by v
decreasing_by omega
theorem vput_lt {v : Nat} (h : v < 128) : vput v = [UInt8.ofNat v] := by rw [vput, dif_pos h]
theorem vput_ge {v : Nat} (h : 128 ≤ v) : vput v = UInt8.ofNat (v % 128 + 128) :: vput (v / 128) := by rw [vput, dif_neg (by omega)]
theorem or128 (x : Nat) : bits .or .u8 ((x : Int) % 256) 128 = ((x % 128 + 128 : Nat) : Int) := by
  have h := (bits_nat .u8 8 (by decide) wraps_u8 (x % 256) 128 (by omega) (by decide)).2
  have e : ∀ a, a < 256 → a ||| 128 = a % 128 + 128 := by decide +kernel
  rw [e _ (by omega)] at h
  rw [show ((x : Int) % 256) = ((x % 256 : Nat) : Int) by omega]
  refine h.trans ?_
  rw [show x % 256 % 128 = x % 128 by omega]
theorem u8s_snoc (ds : List UInt8) (m : Nat) (h : m < 256) : u8s ds ++ [.int .u8 (m : Int)] = u8s (ds ++ [UInt8.ofNat m]) := by
  rw [u8s_append]
  simp [u8s, Nat.mod_eq_of_lt h]
theorem vput_step (ds : List UInt8) {x : Nat} (h : 128 ≤ x) : ds ++ vput x = (ds ++ [UInt8.ofNat (x % 128 + 128)]) ++ vput (x / 128) := by
  rw [vput_ge h]; simp
theorem vput_last (ds : List UInt8) {x : Nat} (h : x < 128) : ds ++ vput x = ds ++ [UInt8.ofNat x] := by rw [vput_lt h]
theorem vput_len : ∀ (n v : Nat), v < 128 ^ (n + 1) → (vput v).length ≤ n + 1
  | 0, v, h => by rw [vput_lt (by simpa using h)]; simp
  | n + 1, v, h => by
    by_cases hv : v < 128
    · rw [vput_lt hv]; simp
    · rw [vput_ge (by omega), List.length_cons]
      have := vput_len n (v / 128) (by rw [Nat.div_lt_iff_lt_mul (by decide)]; rw [Nat.pow_succ] at h; exact h)
      omega
/-- The document's way to read a varint: k bytes have been read, they make acc. -/
def vgetFrom (k acc : Nat) : List UInt8 → Nat × Nat × Nat
  | [] => (0, 0, 8)
  | x :: r => if k = 9 ∧ 1 < x.toNat then (0, 0, 14) else if x.toNat < 128 then (if x.toNat = 0 ∧ 0 < k then (0, 0, 10) else (acc + x.toNat * 128 ^ k, k + 1, 0)) else vgetFrom (k + 1) (acc + (x.toNat % 128) * 128 ^ k) r
def vget (l : List UInt8) : Nat × Nat × Nat := vgetFrom 0 0 l
theorem or_add {acc k y : Nat} (ha : acc < 128 ^ k) (hk : k ≤ 9) (hy : y < 128) (hy9 : k = 9 → y ≤ 1) : bits .or .u64 (acc : Int) (((y * 128 ^ k : Nat)) : Int) = ((acc + y * 128 ^ k : Nat) : Int) := by
  have e : (128 : Nat) ^ k = 2 ^ (7 * k) := by rw [Nat.pow_mul]
  have hlt : acc < 2 ^ (7 * k) := e ▸ ha
  have hp : (128 : Nat) ^ k ≤ 128 ^ 9 := Nat.pow_le_pow_right (by decide) hk
  have hy2 : y * 128 ^ k < 18446744073709551616 := by
    by_cases h9 : k = 9
    · subst h9; have := hy9 rfl; have : y * 128 ^ 9 ≤ 1 * 128 ^ 9 := Nat.mul_le_mul_right _ this; omega
    · have : (128 : Nat) ^ k ≤ 128 ^ 8 := Nat.pow_le_pow_right (by decide) (by omega)
      have := Nat.mul_le_mul (Nat.le_of_lt_succ (show y < 127 + 1 by omega)) this
      omega
  rw [bits_or_u64_nat _ _ (by omega) hy2]
  congr 1
  rw [Nat.or_comm, Nat.mul_comm, e, ← Nat.two_pow_add_eq_or_of_lt hlt y]
  omega
theorem or_lt {acc k y : Nat} (ha : acc < 128 ^ k) (_hk : k ≤ 9) (hy : y < 128) : acc + y * 128 ^ k < 128 ^ (k + 1) := by
  have := Nat.mul_le_mul_right (128 ^ k) (show y ≤ 127 by omega)
  rw [Nat.pow_succ]; omega
theorem shl_wrap (x k : Nat) (h : (x % 128) * 128 ^ k < 18446744073709551616) : IntKind.u64.wrap ((x : Int) % 128 * 2 ^ (7 * k)) = (((x % 128) * 128 ^ k : Nat) : Int) := by
  have e1 : (2 : Int) ^ (7 * k) = ((128 ^ k : Nat) : Int) := by rw [Int.pow_mul]; simp
  rw [e1, show (x : Int) % 128 * ((128 ^ k : Nat) : Int) = (((x % 128) * 128 ^ k : Nat) : Int) by simp, IntKind.wrap_u64]
  omega
theorem and127 (x : UInt8) : bits .and .u8 (x.toNat : Int) 127 = (x.toNat : Int) % 128 :=
  bits_mask .u8 8 (by decide) wraps_u8 7 (by decide) _ (by omega) (by have := x.toNat_lt; omega)
/-- Numbers with a sign as numbers without one. -/
def zig (a : Int) : Nat := if 0 ≤ a then (2 * a).toNat else (-2 * a - 1).toNat
def zag (u : Nat) : Int := if u % 2 = 0 then ((u / 2 : Nat) : Int) else -((u / 2 : Nat) : Int) - 1
theorem tmod_fix (a n : Int) (hn : 0 < n) : (a.tmod n < 0 → a.tmod n + n = a % n) ∧ (0 ≤ a.tmod n → a.tmod n = a % n) := by
  rw [Int.tmod_eq_emod]
  have h1 := Int.emod_nonneg a (Int.ne_of_gt hn)
  have h2 := Int.emod_lt_of_pos a hn
  have h3 : (n.natAbs : Int) = n := by omega
  constructor
  · intro h; split at h <;> split <;> omega
  · intro h; split at h <;> split <;> omega
theorem vput_pos (v : Nat) : 0 < (vput v).length := by rw [vput]; split <;> simp
theorem vput_len_eq : ∀ (n v : Nat), 128 ^ n ≤ v → v < 128 ^ (n + 1) → (vput v).length = n + 1
  | 0, v, _, h => by rw [vput_lt (by simpa using h)]; simp
  | n + 1, v, hl, h => by
    have h1 : 128 ≤ v := Nat.le_trans (by rw [Nat.pow_succ]; have := Nat.pow_pos (n := n) (show 0 < 128 by decide); omega) hl
    rw [vput_ge h1, List.length_cons, vput_len_eq n (v / 128)]
    · rw [Nat.le_div_iff_mul_le (by decide), ← Nat.pow_succ]; exact hl
    · rw [Nat.div_lt_iff_lt_mul (by decide), ← Nat.pow_succ]; exact h
theorem vput_two (m : Nat) : (vput (2 ^ m)).length = 1 + m / 7 := by
  have e : 2 ^ m = 128 ^ (m / 7) * 2 ^ (m % 7) := by
    rw [show (128 : Nat) = 2 ^ 7 from rfl, ← Nat.pow_mul, ← Nat.pow_add]
    congr 1; omega
  have h1 : 0 < 2 ^ (m % 7) := Nat.pow_pos (by decide)
  have h2 : 2 ^ (m % 7) < 2 ^ 7 := Nat.pow_lt_pow_right (by decide) (by omega)
  rw [vput_len_eq (m / 7), Nat.add_comm]
  · rw [e]; exact Nat.le_mul_of_pos_right _ h1
  · rw [e, Nat.pow_succ]; exact Nat.mul_lt_mul_of_pos_left h2 (Nat.pow_pos (by decide))
theorem vput_two_less (m : Nat) : (vput (2 ^ m - 1)).length = max 1 ((m + 6) / 7) := by
  by_cases h0 : m = 0
  · subst h0; rw [vput_lt (by decide)]; rfl
  obtain ⟨k, rfl⟩ : ∃ k, m = k + 1 := ⟨m - 1, by omega⟩
  have e : 2 ^ (k + 1) = 128 ^ (k / 7) * 2 ^ (k % 7 + 1) := by
    rw [show (128 : Nat) = 2 ^ 7 from rfl, ← Nat.pow_mul, ← Nat.pow_add]
    congr 1; omega
  have h1 : 2 ^ 1 ≤ 2 ^ (k % 7 + 1) := Nat.pow_le_pow_right (by decide) (by omega)
  have h2 : 2 ^ (k % 7 + 1) ≤ 2 ^ 7 := Nat.pow_le_pow_right (by decide) (by omega)
  have hp : 0 < 128 ^ (k / 7) := Nat.pow_pos (by decide)
  have h3 := Nat.mul_le_mul_left (128 ^ (k / 7)) h1
  have h4 := Nat.mul_le_mul_left (128 ^ (k / 7)) h2
  rw [vput_len_eq (k / 7)]
  · omega
  · rw [e]; omega
  · rw [e, Nat.pow_succ 128]; omega
theorem vget_put (v k acc : Nat) (rest : List UInt8) (hv : v * 128 ^ k < 18446744073709551616) (hk : 0 < k → 0 < v) : vgetFrom k acc (vput v ++ rest) = (acc + v * 128 ^ k, k + (vput v).length, 0) := by
  induction v using Nat.strongRecOn generalizing k acc with
  | _ v ih =>
    by_cases h : v < 128
    · rw [vput_lt h]
      have e : (UInt8.ofNat v).toNat = v := by simp; omega
      simp only [List.cons_append, List.nil_append, vgetFrom, e, h, if_true, List.length_cons, List.length_nil]
      rw [if_neg, if_neg]
      · rintro ⟨h0, h1⟩; have := hk h1; omega
      · rintro ⟨rfl, h1⟩
        have := Nat.mul_le_mul_right (128 ^ 9) (show 2 ≤ v by omega)
        omega
    · rw [vput_ge (by omega)]
      have e : (UInt8.ofNat (v % 128 + 128)).toNat = v % 128 + 128 := by simp; omega
      have e3 : v * 128 ^ k = (v / 128) * 128 ^ (k + 1) + (v % 128) * 128 ^ k := by
        rw [Nat.pow_succ]
        have h1 := Nat.div_add_mod v 128
        calc v * 128 ^ k = (128 * (v / 128) + v % 128) * 128 ^ k := by rw [h1]
          _ = _ := by rw [Nat.add_mul]; congr 1; rw [Nat.mul_comm 128 (v / 128), Nat.mul_assoc, Nat.mul_comm 128]
      simp only [List.cons_append, vgetFrom, e, List.length_cons]
      rw [if_neg, if_neg (by omega), ih (v / 128) (by omega) (k + 1) _ (by omega) (by omega)]
      · rw [show (v % 128 + 128) % 128 = v % 128 by omega, e3]
        congr 1
        · omega
        · congr 1; omega
      · rintro ⟨rfl, h1⟩
        have := Nat.mul_le_mul_right (128 ^ 9) (show 2 ≤ v by omega)
        omega
theorem vget_vput (v : Nat) (rest : List UInt8) (hv : v < 18446744073709551616) : vget (vput v ++ rest) = (v, (vput v).length, 0) := by
  have := vget_put v 0 0 rest (by simpa using hv) (by omega)
  simpa [vget] using this
/-- Several varints, one behind the other. -/
def vputs : List Nat → List UInt8
  | [] => []
  | v :: r => vput v ++ vputs r
theorem vputs_snoc (l : List Nat) (v : Nat) : vputs (l ++ [v]) = vputs l ++ vput v := by
  induction l with
  | nil => simp [vputs]
  | cons a l ih => simp [vputs, ih]
theorem vputs_len (l : List Nat) (h : ∀ v ∈ l, v < 18446744073709551616) : (vputs l).length ≤ 10 * l.length := by
  induction l with
  | nil => simp [vputs]
  | cons a l ih =>
    have h1 := ih (fun v hv => h v (List.mem_cons_of_mem _ hv))
    have h2 := vput_len 9 a (by have := h a (List.mem_cons_self ..); omega)
    simp only [vputs, List.length_append, List.length_cons]
    omega
theorem u8s_set (xs : List UInt8) (k n : Nat) (h : n < 256) : (u8s xs).set k (.int .u8 (n : Int)) = u8s (xs.set k (UInt8.ofNat n)) := by
  simp [u8s, List.map_set, Nat.mod_eq_of_lt h]
theorem u8s_rep (n m : Nat) (h : m < 256) : List.replicate n (Value.int .u8 (m : Int)) = u8s (List.replicate n (UInt8.ofNat m)) := by
  simp [u8s, Nat.mod_eq_of_lt h]
theorem or128_u8 (x : UInt8) : bits .or .u8 (x.toNat : Int) 128 = ((x.toNat % 128 + 128 : Nat) : Int) := by
  have h := or128 x.toNat
  have hx := x.toNat_lt
  rwa [show ((x.toNat : Int) % 256) = x.toNat by omega] at h
end Go.Shr
