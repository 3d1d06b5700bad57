/-
  The walk of shredderlaw14's many.
-/
import Derived.Test.YtibhcibcfommeaaManyP14
import Derived.Test.YtibhcibcfommeaaMany9
set_option linter.unusedSimpArgs false
namespace Go.Proofs.Ytibhcibcfommeaa
open Go.RowKit Go.Shr
theorem zeros3 (x y z : Value) : ∀ k, (madeCells #[x, y, z] (k * 3)).toList = (List.replicate k [x, y, z]).flatten := by
  intro k
  have key : ∀ (k j : Nat), ((List.replicate k [x, y, z]).flatten)[j]? = if j < k * 3 then some (#[x, y, z][j % 3]!) else none := by
    intro k
    induction k with
    | zero => intro j; simp
    | succ k ih =>
      intro j
      rw [List.replicate_succ, List.flatten_cons]
      by_cases h0 : j < 3
      · have : j = 0 ∨ j = 1 ∨ j = 2 := by omega
        rcases this with rfl | rfl | rfl <;> simp <;> omega
      · rw [List.getElem?_append_right (by simpa using Nat.le_of_not_lt h0), ih]
        simp only [List.length_cons, List.length_nil]
        have e : (j - (0 + 1 + 1 + 1)) % 3 = j % 3 := by omega
        rw [e]
        by_cases h1 : j < (k + 1) * 3
        · rw [if_pos (by omega), if_pos h1]
        · rw [if_neg (by omega), if_neg h1]
  apply List.ext_getElem?
  intro j
  rw [key]
  by_cases h : j < k * 3
  · rw [if_pos h]; simp [madeCells, h]
  · rw [if_neg h]; simp [madeCells]; omega
theorem row_zeros {ok : Nat → Prop} {w : World} : ∀ k, RowG ok w (List.replicate k leaf14) (List.replicate k [Value.int .i64 0, .string ByteArray.empty, .slice none 0 0]).flatten
  | 0 => by simp only [List.replicate_zero, List.flatten_nil, RowG]
  | k + 1 => by
    rw [List.replicate_succ, List.replicate_succ, List.flatten_cons]
    simp only [RowG]
    exact ⟨_, _, _, _, rfl, TrG.leaf (by decide), row_zeros k⟩
theorem Rw.slOk {ok : Nat → Prop} {w : World} {b : Nat} {cur : Array Value} {t : TypeId} (h : Rw w b cur t) (hb : ok b) (n size : Nat) (hn : cur.size = n * size) (hm : n ≤ maxLen) : Sl ok w size (some ⟨b, 0, none⟩) n n cur.toList :=
  ⟨by simpa using hn, Nat.le_refl _, hm, .inr ⟨b, 0, rfl, hb, fun j u hj => by rw [Nat.zero_add, h.cell]; simpa using hj⟩⟩
set_option maxHeartbeats 1000000 in
set_option maxRecDepth 100000 in
theorem manyw_v (n k : Nat) (hn : n ≤ 1000) (hk : k ≤ 1000) (w : World) :
    Calls Try.prog 21 #[.int .i64 (n : Int), .int .i64 (k : Int)] w fun e w' => ∃ a' cap' ys, e = .returned (.slice a' n cap') ∧ Sl (fun b => w.heap.size ≤ b) w' 3 a' n cap' ys ∧ RowG (fun b => w.heap.size ≤ b) w' (kRows n k) ys ∧ Below w.heap.size w w' := by
  obtain ⟨it, hit, hz0t, hz1t, hz2t⟩ := info_parts info_tr
  have hmk := fun w => run_make_n (P := Try.prog) 24 29 _ 48 3 Try.underlying24 info_tr .i64 .i64 k (by omega) (by omega) w
  go_enter Try.func21, Try.ntmps21
  go_wp2_with fail
  go_loopw [5, 6] (fun lv iv wr => ∃ (j : Nat) (aL : Option Addr) (cL : Nat) (ys : List Value), lv = .slice aL j cL ∧ iv = .int .i64 (j : Int) ∧ j ≤ n ∧ Hid (ORow 29 w.heap.size wr aL j cL (kRows j k) ys) ∧ Hid (Below w.heap.size w wr)) (fun _ iv _ => n - (intOf iv).toNat)
  case atStart => exact ⟨0, none, 0, [], rfl, rfl, Nat.zero_le _, Lib.hid (by simpa [kRows] using ORow.nil _ _ _), Lib.hid (b0 w)⟩
  case round =>
    obtain ⟨j, aL, cL, ys, rfl, rfl, hj, HOR, HB⟩ := hrel
    have hszr := HB.out.size
    by_cases hlt : j < n
    · have hsz0 : (⟨#[]⟩ : ByteArray) = ByteArray.empty := rfl
      obtain ⟨wA, hwA⟩ : ∃ wA, wA = (wr.alloc (.cells (madeCells #[.int .i64 0, .string ByteArray.empty, .slice none 0 0] (k * 3)) 29)).alloc (.cells #[.slice (some ⟨wr.heap.size, 0, none⟩) k k] 24) := ⟨_, rfl⟩
      have hbA : Below wr.heap.size wr wA := by rw [hwA]; exact ba (ba (b0 wr) _) _
      have rA : Rw wA wr.heap.size (madeCells #[.int .i64 0, .string ByteArray.empty, .slice none 0 0] (k * 3)) 29 := by rw [hwA]; exact (Rw.new wr _ _).alloc _
      have rB : Rw wA (wr.heap.size + 1) #[.slice (some ⟨wr.heap.size, 0, none⟩) k k] 24 := by rw [hwA]; exact Rw.new' (by simp)
      have hszA : wA.heap.size = wr.heap.size + 1 + 1 := by rw [hwA]; simp
      have hlt2 := HOR.out.lt
      have hT : TrG (fun b => w.heap.size ≤ b ∧ ¬ blk aL b) wA (kTr k) [.int .i64 0, .string ByteArray.empty, .slice (some ⟨wr.heap.size + 1, 0, none⟩) 1 1] := by
        simp only [kTr, TrG]
        refine ⟨_, 1, 1, [.slice (some ⟨wr.heap.size, 0, none⟩) k k], rfl, by decide, Rw.slOk rB ⟨by omega, fun h => by have := hlt2 _ h; omega⟩ 1 1 rfl (by decide), ?_⟩
        simp only [KidG]
        refine ⟨_, k, k, _, [], rfl, by simp, ?_, row_zeros k, rfl⟩
        rw [← zeros3]
        exact Rw.slOk rA ⟨by omega, fun h => by have := hlt2 _ h; omega⟩ k 3 (by simp [madeCells]) (by unfold maxLen; omega)
      have hch : Chg (fun _ => False) wr (wA.alloc (.cells #[.int .i64 0, .string ByteArray.empty, .slice (some ⟨wr.heap.size + 1, 0, none⟩) 1 1] 29)) := by rw [hwA]; exact (((Chg.refl (fun _ => False) wr).alloc _).alloc _).alloc _
      have HOR2 := Lib.hid (HOR.out.chg hch (fun _ _ h => h))
      have HT2 := Lib.hid (TrG.go (ok' := fun b => w.heap.size ≤ b ∧ ¬ blk aL b) ((Chg.refl (fun _ => False) wA).alloc (.cells #[.int .i64 0, .string ByteArray.empty, .slice (some ⟨wr.heap.size + 1, 0, none⟩) 1 1] 29)) (fun b _ hb => ⟨fun h => h, hb⟩) hT)
      have HBA := Lib.hid (bt HB.out hbA)
      have HKR : Hid (kRows (j + 1) k = kRows j k ++ [kTr k]) := Lib.hid (by unfold kRows; rw [List.replicate_succ'])
      have hsr := src_built (P := Try.prog) (tx := 24) (e' := 29) Try.underlying24 wA #[.int .i64 0, .string ByteArray.empty, .slice (some ⟨wr.heap.size + 1, 0, none⟩) 1 1] 29 1 3 rfl (by simp [Value.oneCell'])
      rw [hszA] at hsr
      have HSR := Lib.hid hsr
      clear hch hT rA rB hbA hlt2 hsr
      subst hwA
      have tok1 : True := trivial
      go_wp2_with (first
        | (at_builtin; have _t := tok1; clear tok1; clear _t; refine wpList_append (B := w.heap.size) rfl _ _ _ _ rfl it (.agg #[.int .i64 0, .string ByteArray.empty, .slice none 0 0]) 48 Try.underlying24 hit hz0t hz1t hz2t rfl rfl (HOR2.out.own) _ rfl _ _ (HSR.out) (by simp only [maxLen]; omega) (by omega) (by first | omega | (simp; omega) | simp) ?_; intro a5 cap5 w5 ho5 hc5 hn5); (have HOR5 := Lib.hid (ORow.push HOR2.out HT2.out ho5 hc5 hn5)); (have HC5 := Lib.hid hc5); clear ho5 hc5 hn5
        | fail)
      go_roundw
      case rel =>
        have hp := HOR5.out
        rw [← HKR.out] at hp
        exact ⟨j + 1, a5, cap5, _, rfl, by go_num, by omega, Lib.hid hp, Lib.hid (Chg.bt (ba HBA.out (.cells #[.int .i64 0, .string ByteArray.empty, .slice (some ⟨wr.heap.size + 1, 0, none⟩) 1 1] 29)) HC5.out (fun b hb h => by omega))⟩
      case measure => simp [intOf]; omega
    · obtain rfl : j = n := by omega
      have HO := HOR.out.sl
      clear hmk
      go_wp2_with fail
      go_ret
      exact ⟨aL, cL, ys, rfl, HO.1, HO.2, HB.out⟩
end Go.Proofs.Ytibhcibcfommeaa
