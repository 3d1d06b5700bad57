import Derived.Test.YtjbkjfefjhbolaakLCols14
set_option linter.all false
open List renaming getElem_of_mem → zLP
namespace Go.Proofs.Ytjbkjfefjhbolaa
open Go.RowKit Go.Shr
def zLl (X : Cl) : Prop := X.r.length ≤ 50 ∧ X.d.length ≤ 50 ∧ X.v.length ≤ 50 ∧ ∀ v ∈ X.v, v.s.size ≤ 150
def zLe (L : List Cl) (w : World) (e : Ending) (w' : World) : Prop := ∃ b, e = .returned (.bool b) ∧ (b = true → L.length ≤ 15 ∧ ∀ X ∈ L, zLl X) ∧ w' = w
set_option maxHeartbeats 1000000 in
set_option maxRecDepth 100000 in
theorem zKe (ca : Option Addr) (m cc : Nat) (L : List Cl) (xs : List Value) (w : World) (hc : xE w ca m cc L xs) :
  Calls Try.prog 16 #[.slice ca m cc] w (zLe L w) := by
 obtain rfl := hc.n
 have hLm := Nat.le_trans hc.sl.le hc.sl.max
 unfold maxLen at hLm
 have HC := zH hc
 clear hc
 go_enter Try.func16, Try.ntmps16
 go_wp2_with fail
 go_loopw [3] (fun iv wr => ∃ i : Nat, iv = .int .i64 (i : Int) ∧ i ≤ L.length ∧ Hid (∀ (k : Nat) (h : k < L.length), k < i → zLl L[k]) ∧ wr = w) (fun iv _ => L.length - (intOf iv).toNat)
 case atStart => exact ⟨0, rfl, Nat.zero_le _, zH (fun k _ h => by omega), rfl⟩
 case round =>
  obtain ⟨i, rfl, hi, HF, rfl⟩ := hrel
  by_cases hil : i < L.length
  ·obtain ⟨b, o, a0, c0, a1, c1, a2, c2, rfl, x0, x1, x2, hcl⟩ := HC.out.get i hil
   have h2m := Nat.le_trans hcl.v.le hcl.v.max
   unfold maxLen at h2m
   have HCL := zH hcl
   have hi1 : (i : Int) < (L.length : Int) := by omega
   clear hcl
   by_cases h0 : L[i].r.length ≤ 50
   rotate_left
   ·have h0' : (50 : Int) < (L[i].r.length : Int) := by omega
    generalize L[i].r.length = n0 at *
    go_wp2_with fail
    go_ret
    exact ⟨false, rfl, (fun h => by cases h), rfl⟩
   by_cases h1 : L[i].d.length ≤ 50
   rotate_left
   ·have h1' : (50 : Int) < (L[i].d.length : Int) := by omega
    have h0' : ¬ (50 : Int) < (L[i].r.length : Int) := by omega
    generalize L[i].r.length = n0 at *
    generalize L[i].d.length = n1 at *
    go_wp2_with fail
    go_ret
    exact ⟨false, rfl, (fun h => by cases h), rfl⟩
   by_cases h2 : L[i].v.length ≤ 50
   rotate_left
   ·have h2' : (50 : Int) < (L[i].v.length : Int) := by omega
    have h1' : ¬ (50 : Int) < (L[i].d.length : Int) := by omega
    have h0' : ¬ (50 : Int) < (L[i].r.length : Int) := by omega
    generalize L[i].r.length = n0 at *
    generalize L[i].d.length = n1 at *
    generalize L[i].v.length = n2 at *
    go_wp2_with fail
    go_ret
    exact ⟨false, rfl, (fun h => by cases h), rfl⟩
   have h2' : ¬ (50 : Int) < (L[i].v.length : Int) := by omega
   have h1' : ¬ (50 : Int) < (L[i].d.length : Int) := by omega
   have h0' : ¬ (50 : Int) < (L[i].r.length : Int) := by omega
   have HB := zH (And.intro h0 (And.intro h1 h2))
   obtain ⟨V, hV⟩ : ∃ V, V = L[i].v := ⟨_, rfl⟩
   have HV := zH hV
   have hnx : Hid ((∀ v ∈ V, v.s.size ≤ 150) → ∀ (k : Nat) (h : k < L.length), k < i + 1 → zLl L[k]) := zH (fun hv k hk hki => by
    by_cases e : k = i
    ·subst e; exact ⟨h0, h1, h2, by rw [← hV]; exact hv⟩
    ·exact HF.out k hk (by omega))
   have HSV : Hid (Sl (fun b => b < wr.heap.size) wr 2 a2 V.length c2 (vcs V)) := zH (by rw [hV]; exact HCL.out.v)
   rw [← hV] at x2 h2' h2m
   generalize L[i].r.length = n0 at *
   generalize L[i].d.length = n1 at *
   clear hV h0 h1 h2 HB HCL HV
   obtain ⟨wo, hwo⟩ : ∃ wo : World, wo = wr := ⟨_, rfl⟩
   subst hwo
   go_wp2_with fail
   go_loopw [4] (fun kv wq => ∃ k : Nat, kv = .int .i64 (k : Int) ∧ k ≤ V.length ∧ Hid (∀ (j : Nat) (h : j < V.length), j < k → V[j].s.size ≤ 150) ∧ wq = wo) (fun kv _ => V.length - (intOf kv).toNat)
   case atStart => exact ⟨0, rfl, Nat.zero_le _, zH (fun k _ h => by omega), rfl⟩
   case round =>
    obtain ⟨k, rfl, hk, HK, hwr⟩ := hrel
    subst hwr
    by_cases hkl : k < V.length
    ·obtain ⟨vb, vo, rfl, _, hvc⟩ := HSV.out.pos (by omega)
     have y1 := hvc _ _ (qL V k hkl).2
     rw [← Nat.add_assoc] at y1
     have hk1 : (k : Int) < (V.length : Int) := by omega
     have HKX : Hid (V[k].s.size ≤ 150 → ∀ (j : Nat) (h : j < V.length), j < k + 1 → V[j].s.size ≤ 150) := zH (fun hv j hj hjk => by
      by_cases e : j = k
      ·subst e; exact hv
      ·exact HK.out j hj (by omega))
     generalize V[k].s = s at *
     clear hvc
     by_cases hs : s.size ≤ 150
     ·have hs' : ¬ (150 : Int) < (s.size : Int) := by omega
      go_wp2_with fail
      go_roundw
      case rel => exact ⟨k + 1, by go_num, by omega, zH (HKX.out hs), trivial⟩
      case measure => simp [intOf]; omega
     ·have hs' : (150 : Int) < (s.size : Int) := by omega
      go_wp2_with fail
      go_ret
      exact ⟨false, rfl, (fun h => by cases h), rfl⟩
    ·obtain rfl : k = V.length := by omega
     have HN := zH (hnx.out (fun v hv => by
      obtain ⟨j, hj, rfl⟩ := zLP hv
      exact HK.out j hj hj))
     go_wp2_with fail
     go_roundw
     case rel => exact ⟨i + 1, by go_num, by omega, HN, trivial⟩
     case measure => simp [intOf]; omega
  ·obtain rfl : i = L.length := by omega
   go_wp2_with fail
   go_ret
   refine ⟨decide (L.length ≤ 15), by simp; omega, fun h => ⟨by simpa using h, fun X hX => ?_⟩, rfl⟩
   obtain ⟨j, hj, rfl⟩ := zLP hX
   exact HF.out j hj hj
end Go.Proofs.Ytjbkjfefjhbolaa
