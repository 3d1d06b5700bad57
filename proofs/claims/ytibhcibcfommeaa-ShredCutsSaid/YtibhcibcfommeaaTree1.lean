/-
 The walks of tree.short, tree.leaf.
-/
import Derived.Test.YtibhcibcfommeaaSch4
import Derived.Test.YtibhcibcfommeaaFitP
import Derived.Laws.RangeAny
set_option linter.unusedSimpArgs false
namespace Go.Proofs.Ytibhcibcfommeaa
open Go.RowKit Go.Shr
theorem width_pos (s : ByteArray) (pos : Nat) (h : pos < s.size) : 1 ≤ (Utf8.decode s pos).2 := by
 by_cases ha : (s[pos]'h).toNat < 128
 ·rw [decode_ascii s pos h ha]
  exact Nat.le_refl _
 ·exact (decode_high s pos h (by omega)).2
theorem short_v (s : ByteArray) (w : World) : Calls Try.prog 66 #[.string s] w fun e w' => e = .returned (.bool (decide (s.size ≤ 100))) ∧ Below w.heap.size w w' := by
 go_enter Try.func66, Try.ntmps66
 go_wp2_with fail
 go_loopw [2] (fun r w' => ∃ pos : Nat, r = .bool false ∧ w' = w.iter s pos) (fun _ w' => s.size - w'.iterPos w.heap.size)
 case atStart => exact ⟨0, rfl, rfl⟩
 case round =>
  obtain ⟨pos, rfl, rfl⟩ := hrel
  have hB : ∀ q, Below w.heap.size w (w.iter s q) := fun q => ba (b0 w) _
  by_cases hp : pos < s.size
  ·have hnx : ∀ ty, (Instr.next (.pointer (some ⟨w.heap.size, 0, none⟩)) true ty).run Try.prog (w.iter s pos) = _ := fun ty => run_next_any w s pos ty hp
   have hwd := width_pos s pos hp
   by_cases hq : 100 < pos
   ·have hsz : ¬ s.size ≤ 100 := by omega
    go_wp2_with fail
    go_ret
    exact ⟨ret_bo (by simp; omega), hB _⟩
   ·go_wp2_with fail
    go_roundw
    case rel => exact ⟨_, rfl, rfl⟩
    case measure => simp; omega
  ·have hnx : ∀ ty, (Instr.next (.pointer (some ⟨w.heap.size, 0, none⟩)) true ty).run Try.prog (w.iter s pos) = _ := fun ty => run_next_end w s pos ty hp
   go_wp2_with fail
   go_ret
   exact ⟨ret_bo (by simp; omega), hB _⟩
set_option maxHeartbeats 1000000 in
theorem leaf_v (kind : Int) (t : Tr) (a : Option Addr) (m cap : Nat) (hm : m = t.kids.length) (w : World) (h1 : 1 ≤ kind) (h4 : kind ≤ 4) :
  Calls Try.prog 63 #[.int .i64 kind, .agg #[.int .i64 t.n, .string t.s, .slice a m cap]] w fun e w' => e = .returned (.int .i64 (leafT kind t)) ∧ Below w.heap.size w w' := by
 obtain ⟨n, s, ks⟩ := t
 simp only [Tr.n, Tr.s, Tr.kids] at *
 have HE : Hid (leafT kind (.mk n s ks) = if 0 < m ∨ (kind = 4 ∧ n ≠ 0) ∨ (kind ≠ 4 ∧ s.toList ≠ []) then 13
  else if kind = 1 then (if n < 0 ∨ 1 < n then 14 else 0) else if kind = 2 then (if n < -2147483648 ∨ 2147483647 < n then 14 else 0) else if kind = 3 then 0 else if 100 < s.size then 5 else 0) := Lib.hid (by rw [hm]; rfl)
 clear hm
 generalize leafT kind (.mk n s ks) = R at *
 have hk : kind = 1 ∨ kind = 2 ∨ kind = 3 ∨ kind = 4 := by omega
 by_cases hm : 0 < m
 ·have HR : Hid (R = 13) := Lib.hid (by rw [HE.out, if_pos (.inl hm)])
  clear HE
  go_enter Try.func63, Try.ntmps63
  go_wp2_with fail
  go_ret
  exact ⟨ret_i HR.out.symm, by repeat (first | with_reducible exact Below.refl _ _ | refine ba ?_ _)⟩
 obtain rfl : m = 0 := by omega
 clear hm
 have hs0 : s.toList = [] ∨ s.toList ≠ [] := by by_cases h : s.toList = []; exact .inl h; exact .inr h
 have strs : ∀ {k : Int}, k ≠ 4 → s.toList ≠ [] → R = (if 0 < 0 ∨ (k = 4 ∧ n ≠ 0) ∨ (k ≠ 4 ∧ s.toList ≠ []) then 13 else if k = 1 then (if n < 0 ∨ 1 < n then 14 else 0) else if k = 2 then (if n < -2147483648 ∨ 2147483647 < n then 14 else 0) else if k = 3 then 0 else if 100 < s.size then 5 else 0) → R = 13 := fun h1 h2 h => by rw [h, if_pos (.inr (.inr ⟨h1, h2⟩))]
 rcases hk with rfl | rfl | rfl | rfl
 ·rcases hs0 with hs | hs
  ·have HR : Hid (R = if n < 0 ∨ 1 < n then 14 else 0) := Lib.hid (by rw [HE.out]; simp [hs])
   have hse : (!s.toList.isEmpty) = false := by rw [hs]; rfl
   have hsz : s.size ≤ 100 := by have := str_len s; rw [hs] at this; simp at this; omega
   have hd : decide (s.size ≤ 100) = true := decide_eq_true hsz
   have HD := Lib.hid hd
   clear HE strs hd
   go_enter Try.func63, Try.ntmps63
   go_wp2_with fail
   refine (short_v s _).mono ?_
   rintro e w1 ⟨rfl, hb1⟩
   have r3 := (Rw.new w #[.int .i64 n, .string s, .slice a 0 cap] 29).below hb1
   have q0 : w1.cell? ⟨w.heap.size, 0, none⟩ = some (.int .i64 n) := r3.cell 0
   have HB := Lib.hid (bt (ba (b0 w) _) hb1)
   rw [HD.out]
   clear hb1 r3
   by_cases hn1 : n < 0
   ·go_wp2_with fail
    go_ret
    exact ⟨ret_i (by rw [HR.out, if_pos (.inl (by assumption))]), HB.out⟩
   ·by_cases hn2 : 1 < n
    ·go_wp2_with fail
     go_ret
     exact ⟨ret_i (by rw [HR.out, if_pos (.inr (by assumption))]), HB.out⟩
    ·go_wp2_with fail
     go_ret
     exact ⟨ret_i (by rw [HR.out, if_neg (by omega)]), HB.out⟩
  ·have HR : Hid (R = 13) := Lib.hid (strs (by decide) hs HE.out)
   have hse : (!s.toList.isEmpty) = true := by cases h : s.toList with | nil => exact absurd h hs | cons => rfl
   clear HE strs
   go_enter Try.func63, Try.ntmps63
   go_wp2_with fail
   go_ret
   exact ⟨ret_i HR.out.symm, by repeat (first | with_reducible exact Below.refl _ _ | refine ba ?_ _)⟩
 ·rcases hs0 with hs | hs
  ·have HR : Hid (R = if n < -2147483648 ∨ 2147483647 < n then 14 else 0) := Lib.hid (by rw [HE.out]; simp [hs])
   have hse : (!s.toList.isEmpty) = false := by rw [hs]; rfl
   clear HE strs
   by_cases hn1 : n < -2147483648
   ·go_enter Try.func63, Try.ntmps63
    go_wp2_with fail
    go_ret
    exact ⟨ret_i (by rw [HR.out, if_pos (.inl (by assumption))]), by repeat (first | with_reducible exact Below.refl _ _ | refine ba ?_ _)⟩
   ·by_cases hn2 : 2147483647 < n
    ·go_enter Try.func63, Try.ntmps63
     go_wp2_with fail
     go_ret
     exact ⟨ret_i (by rw [HR.out, if_pos (.inr (by assumption))]), by repeat (first | with_reducible exact Below.refl _ _ | refine ba ?_ _)⟩
    ·go_enter Try.func63, Try.ntmps63
     go_wp2_with fail
     go_ret
     exact ⟨ret_i (by rw [HR.out, if_neg (by omega)]), by repeat (first | with_reducible exact Below.refl _ _ | refine ba ?_ _)⟩
  ·have HR : Hid (R = 13) := Lib.hid (strs (by decide) hs HE.out)
   have hse : (!s.toList.isEmpty) = true := by cases h : s.toList with | nil => exact absurd h hs | cons => rfl
   clear HE strs
   go_enter Try.func63, Try.ntmps63
   go_wp2_with fail
   go_ret
   exact ⟨ret_i HR.out.symm, by repeat (first | with_reducible exact Below.refl _ _ | refine ba ?_ _)⟩
 ·rcases hs0 with hs | hs
  ·have HR : Hid (R = 0) := Lib.hid (by rw [HE.out]; simp [hs])
   have hse : (!s.toList.isEmpty) = false := by rw [hs]; rfl
   clear HE strs
   go_enter Try.func63, Try.ntmps63
   go_wp2_with fail
   go_ret
   exact ⟨ret_i HR.out.symm, by repeat (first | with_reducible exact Below.refl _ _ | refine ba ?_ _)⟩
  ·have HR : Hid (R = 13) := Lib.hid (strs (by decide) hs HE.out)
   have hse : (!s.toList.isEmpty) = true := by cases h : s.toList with | nil => exact absurd h hs | cons => rfl
   clear HE strs
   go_enter Try.func63, Try.ntmps63
   go_wp2_with fail
   go_ret
   exact ⟨ret_i HR.out.symm, by repeat (first | with_reducible exact Below.refl _ _ | refine ba ?_ _)⟩
 ·clear strs hs0
  by_cases hn : n = 0
  ·subst hn
   have HR : Hid (R = if 100 < s.size then 5 else 0) := Lib.hid (by rw [HE.out]; simp)
   clear HE
   by_cases hsz : s.size ≤ 100
   ·have HD : Hid (decide (s.size ≤ 100) = true) := Lib.hid (decide_eq_true hsz)
    replace HR : Hid (R = 0) := Lib.hid (by rw [HR.out, if_neg (by omega)])
    clear hsz
    go_enter Try.func63, Try.ntmps63
    go_wp2_with fail
    refine (short_v s _).mono ?_
    rintro e w1 ⟨rfl, hb1⟩
    have r3 := (Rw.new w #[.int .i64 0, .string s, .slice a 0 cap] 29).below hb1
    have q0 : w1.cell? ⟨w.heap.size, 0, none⟩ = some (.int .i64 0) := r3.cell 0
    have HB := Lib.hid (bt (ba (b0 w) _) hb1)
    rw [HD.out]
    clear hb1 r3
    go_wp2_with fail
    go_ret
    exact ⟨ret_i HR.out.symm, HB.out⟩
   ·have HD : Hid (decide (s.size ≤ 100) = false) := Lib.hid (decide_eq_false hsz)
    replace HR : Hid (R = 5) := Lib.hid (by rw [HR.out, if_pos (by omega)])
    clear hsz
    go_enter Try.func63, Try.ntmps63
    go_wp2_with fail
    refine (short_v s _).mono ?_
    rintro e w1 ⟨rfl, hb1⟩
    have HB := Lib.hid (bt (ba (b0 w) _) hb1)
    rw [HD.out]
    clear hb1
    go_wp2_with fail
    go_ret
    exact ⟨ret_i HR.out.symm, HB.out⟩
  ·have HR : Hid (R = 13) := Lib.hid (by rw [HE.out, if_pos (.inr (.inl ⟨rfl, hn⟩))])
   have hnb : (n == 0) = false := beq_eq_false_iff_ne.2 hn
   have hnb2 : (n != 0) = true := by simp [hn]
   clear HE hn
   go_enter Try.func63, Try.ntmps63
   go_wp2_with fail
   go_ret
   exact ⟨ret_i HR.out.symm, by repeat (first | with_reducible exact Below.refl _ _ | refine ba ?_ _)⟩
end Go.Proofs.Ytibhcibcfommeaa
