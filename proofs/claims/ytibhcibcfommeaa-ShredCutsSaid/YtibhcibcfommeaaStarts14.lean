/-
 Where records begin: plain; the walks of both Starts.
-/
import Derived.Test.YtibhcibcfommeaaLCols14
set_option linter.unusedSimpArgs false
namespace Go.Proofs.Ytibhcibcfommeaa
open Go.RowKit Go.Shr
def startsF : Nat → List Int → List Int
 | _, [] => []
 | k, z :: q => if z = 0 then (k : Int) :: startsF (k + 1) q else startsF (k + 1) q
theorem startsF_snoc (z : Int) : ∀ (q : List Int) (k : Nat), startsF k (q ++ [z]) = startsF k q ++ if z = 0 then [((k + q.length : Nat) : Int)] else []
 | [], k => by simp [startsF]
 | y :: q, k => by
  have ih := startsF_snoc z q (k + 1)
  simp only [List.cons_append, startsF, ih, List.length_cons]
  rw [show k + 1 + q.length = k + (q.length + 1) by omega]
  split <;> simp
theorem startsF_len : ∀ (q : List Int) (k : Nat), (startsF k q).length ≤ q.length
 | [], _ => by simp [startsF]
 | y :: q, k => by
  have ih := startsF_len q (k + 1)
  simp only [startsF, List.length_cons]
  split
  ·simp only [List.length_cons]; omega
  ·omega
theorem startsF_cnt : ∀ (q : List Int) (k : Nat), (startsF k q).length = (q.filter fun z => z == 0).length
 | [], _ => by simp [startsF]
 | y :: q, k => by
  have ih := startsF_cnt q (k + 1)
  simp only [startsF, List.filter_cons]
  by_cases h : y = 0
  ·simp [h, ih]
  ·simp [h, ih]
theorem startsF_bd : ∀ (q : List Int) (k : Nat) (z : Int), z ∈ startsF k q → (k : Int) ≤ z ∧ z < ((k + q.length : Nat) : Int)
 | [], _, _, h => by simp [startsF] at h
 | y :: q, k, z, h => by
  simp only [startsF] at h
  simp only [List.length_cons]
  split at h
  ·rcases List.mem_cons.1 h with rfl | h
   ·omega
   ·have := startsF_bd q (k + 1) z h; omega
  ·have := startsF_bd q (k + 1) z h; omega
theorem startsF_take {q : List Int} {i : Nat} (h : i < q.length) : startsF 0 (q.take (i + 1)) = startsF 0 (q.take i) ++ if q[i] = 0 then [(i : Int)] else [] := by
 rw [List.take_succ_eq_append_getElem h, startsF_snoc, List.length_take, Nat.min_eq_left (Nat.le_of_lt h), Nat.zero_add]
set_option maxHeartbeats 1000000 in
set_option maxRecDepth 100000 in
theorem rstarts_v (x : Cl) (a0 a1 a2 : Option Addr) (c0 c1 c2 : Nat) (w : World) (hx : ClAt (fun b => b < w.heap.size) w x a0 c0 a1 c1 a2 c2) (hn : x.r.length ≤ 1000000) :
  Calls Try.prog 25 #[.agg #[.slice a0 x.r.length c0, .slice a1 x.d.length c1, .slice a2 x.v.length c2]] w fun e w' => ∃ a c, e = .returned (.slice a (startsF 0 x.r).length c) ∧ Own w.heap.size w' 3 1 a (startsF 0 x.r).length c (ints (startsF 0 x.r)) ∧ Below w.heap.size w w' := by
 obtain ⟨ii, hii, hz0i, hz1i, hz2i⟩ := info_parts info_i
 have HX := Lib.hid hx.r
 clear hx
 go_enter Try.func25, Try.ntmps25
 go_upto_region 1 with fail
 refine gen_wz (fun w1 hw1 => ?_)
 have hb1 : Below w.heap.size w w1 := by rw [hw1]; exact ba (b0 w) _
 have r1 : Rw w1 w.heap.size #[.slice a0 x.r.length c0, .slice a1 x.d.length c1, .slice a2 x.v.length c2] 46 := by rw [hw1]; exact Rw.new w _ _
 clear hw1
 obtain ⟨q1, hq1⟩ : ∃ b, b = w.heap.size := ⟨_, rfl⟩
 rw [← hq1] at r1 ⊢
 have hql := r1.lt
 have HB1 := Lib.hid (show Below w.heap.size w w1 from hb1)
 try rw [← hq1]
 have HQ1 := Lib.hid hq1
 clear hb1 hq1
 have k0 : w1.cell? ⟨q1, 0, none⟩ = some (.slice a0 x.r.length c0) := r1.cell 0
 have K0 := Lib.hid k0
 clear r1 k0
 go_wp2_with fail
 go_loopw [3, 4] (fun lv iv wr => ∃ (i : Nat) (a : Option Addr) (c : Nat), lv = .slice a (startsF 0 (x.r.take i)).length c ∧ iv = .int .i64 (i : Int) ∧ i ≤ x.r.length ∧ Hid (Own w1.heap.size wr 3 1 a (startsF 0 (x.r.take i)).length c (ints (startsF 0 (x.r.take i)))) ∧ Hid (Below w1.heap.size w1 wr)) (fun _ iv _ => x.r.length - (intOf iv).toNat)
 case atStart => exact ⟨0, none, 0, by simp [startsF], rfl, Nat.zero_le _, Lib.hid (by simpa [startsF, ints] using Own.nil _ _ _ _), Lib.hid (b0 w1)⟩
 case round =>
  obtain ⟨i, a, c, rfl, rfl, hi, HO, HB⟩ := hrel
  have k0 := cb HB.out K0.out
  have hsz := HB.out.size
  have hsl := startsF_len (x.r.take i) 0
  rw [List.length_take] at hsl
  by_cases hlt : i < x.r.length
  ·obtain ⟨p, o, hpa, _, hpc⟩ := HX.out.pos (by omega)
   have u0 := cb HB.out (cb HB1.out (hpc i _ (ints_get x.r i hlt)))
   rw [hpa] at k0
   have HST := Lib.hid (startsF_take hlt)
   generalize x.r[i] = z at *
   clear hpc hpa
   generalize startsF 0 (x.r.take i) = L at *
   by_cases hz : z = 0
   ·have hb : (z == 0) = true := beq_iff_eq.2 hz
    have HN : Hid (startsF 0 (x.r.take (i + 1)) = L ++ [(i : Int)]) := Lib.hid (by rw [HST.out, if_pos hz])
    have HNL : Hid ((startsF 0 (x.r.take (i + 1))).length = L.length + 1) := Lib.hid (by rw [HN.out]; simp)
    clear hz HST
    have tok1 : True := trivial
    go_wp2_with (first
     | (at_builtin; have _t := tok1; clear tok1; clear _t; refine wpList_append (B := w1.heap.size) rfl _ _ _ _ rfl ii (.int .i64 0) 8 Try.underlying22 hii hz0i hz1i hz2i rfl rfl (HO.out.alloc _) _ rfl _ _ (src_one (e' := 3) Try.underlying22 wr (.int .i64 (i : Int)) 3 rfl) (by simp only [maxLen]; omega) (by omega) (by first | omega | (simp; omega) | simp) ?_; intro a5 cap5 w5 ho5 hc5 hn5); (have HO5 := Lib.hid ho5); (have HC5 := Lib.hid hc5); clear ho5 hc5 hn5
     | fail)
    go_roundw
    case rel =>
     refine ⟨i + 1, a5, cap5, by rw [HNL.out], by go_num, by omega, Lib.hid ?_, Lib.hid (Chg.bt (ba HB.out (.cells #[.int .i64 (i : Int)] 3)) HC5.out (fun b hb h => by have := h.2.1; omega))⟩
     have := HO5.out
     rw [HN.out, ints_snoc]
     simpa using this
    case measure => simp [intOf]; omega
   ·have hb : (z == 0) = false := beq_eq_false_iff_ne.2 hz
    have HN : Hid (startsF 0 (x.r.take (i + 1)) = L) := Lib.hid (by rw [HST.out, if_neg hz, List.append_nil])
    clear hz HST
    go_wp2_with fail
    go_roundw
    case rel => exact ⟨i + 1, a, c, by rw [HN.out], by go_num, by omega, Lib.hid (by rw [HN.out]; exact HO.out), HB⟩
    case measure => simp [intOf]; omega
  ·obtain rfl : i = x.r.length := by omega
   have HO2 := HO.out
   have e1 : startsF 0 (x.r.take x.r.length) = startsF 0 x.r := by rw [List.take_length]
   rw [e1] at HO2 ⊢
   have HO3 := Lib.hid HO2
   clear HO2 e1
   go_wp2_with fail
   go_ret
   exact ⟨a, c, rfl, HO3.out.mono HB1.out.size, bt HB1.out HB.out⟩
/-- What one cell adds to the places where records begin. -/
def EachQ (B c : Nat) (a : Option Addr) (xs : List Int) (k : Nat) (r : Int) (w : World) (e : Ending) (w' : World) : Prop :=
 e = .returned (.tuple #[]) ∧ ∃ a' cap', Rw w' c #[.slice a' (xs ++ if r = 0 then [(k : Int)] else []).length cap'] 22 ∧ Own B w' 3 1 a' (xs ++ if r = 0 then [(k : Int)] else []).length cap' (ints (xs ++ if r = 0 then [(k : Int)] else [])) ∧ Chg (fun g => g = c ∨ (blk a g ∧ B ≤ g)) w w'
set_option maxHeartbeats 1000000 in
theorem each_v (k : Nat) (r : Int) (B c : Nat) (a : Option Addr) (cap : Nat) (xs : List Int) (w : World) (hr : Rw w c #[.slice a xs.length cap] 22) (ho : Own B w 3 1 a xs.length cap (ints xs)) (hn : xs.length ≤ 1000000) (hcB : c < B) (hBw : B ≤ w.heap.size) :
  Calls Try.prog 42 #[.int .i64 (k : Int), .int .i64 r, .pointer (some ⟨c, 0, none⟩)] w (EachQ B c a xs k r w) := by
 obtain ⟨ii, hii, hz0i, hz1i, hz2i⟩ := info_parts info_i
 have q0 : w.cell? ⟨c, 0, none⟩ = some (.slice a xs.length cap) := hr.cell 0
 have hlt := hr.lt
 have HO := Lib.hid ho; have HR := Lib.hid hr; clear ho hr
 go_enter Try.func42, Try.ntmps42
 by_cases hz : r = 0
 ·have hb : (r == 0) = true := beq_iff_eq.2 hz
  have HZ := Lib.hid hz
  clear hz
  have tok1 : True := trivial
  go_wp2_with (first | (at_builtin; have _t := tok1; clear tok1; clear _t; refine wpList_append (B := B) rfl _ _ _ _ rfl ii (.int .i64 0) 8 Try.underlying22 hii hz0i hz1i hz2i rfl rfl (HO.out.alloc _) _ rfl _ _ (src_built (e' := 3) Try.underlying22 w #[.int .i64 (k : Int)] 3 1 1 rfl (by simp [Value.oneCell'])) (by simp only [maxLen]; omega) (by omega) (by first | omega | (simp; omega) | simp) ?_; intro a5 cap5 w5 ho5 hc5 hn5); (have r5 : Rw w5 c #[.slice a xs.length cap] 22 := (HR.out.alloc _).chg hc5 (fun h => by have := h.2.1; omega)); (have HO5 := Lib.hid ho5); (have HC5 := Lib.hid hc5); (have HR5 := Lib.hid r5); (have y0 : w5.cell? ⟨c, 0, none⟩ = some (.slice a xs.length cap) := r5.cell 0); (have qf := r5.frozen); (have ql := r5.lt); clear ho5 hc5 r5 | fail)
  refine bodyPost_end (v := .tuple #[]) (by simp [results, Try.results42, go_sem]) rfl ?_
  unfold EachQ
  rw [if_pos HZ.out]
  simp only [List.length_append, List.length_singleton]
  refine ⟨by first | rfl | trivial, a5, cap5, HR5.out.set 0 _, ?_, ?_⟩
  ·rw [ints_snoc]; exact HO5.out.setBelow hcB _
  ·exact (((Chg.refl (fun g => g = c ∨ (blk a g ∧ B ≤ g)) w).alloc _).trans HC5.out (fun g _ h => .inr ⟨h.1, h.2.1⟩)).setCell (.inr (.inl rfl)) _
 ·have hb : (r == 0) = false := beq_eq_false_iff_ne.2 hz
  have HZ := Lib.hid hz
  clear hz
  go_wp2_with fail
  refine bodyPost_end (v := .tuple #[]) (by simp [results, Try.results42, go_sem]) rfl ?_
  unfold EachQ
  rw [if_neg HZ.out, List.append_nil]
  exact ⟨by first | rfl | trivial, a, cap, HR.out, HO.out, Chg.refl _ _⟩
set_option maxHeartbeats 1000000 in
set_option maxRecDepth 100000 in
theorem starts_v (x : Cl) (a0 a1 a2 : Option Addr) (c0 c1 c2 : Nat) (w : World) (hx : ClAt (fun b => b < w.heap.size) w x a0 c0 a1 c1 a2 c2) (hn : x.r.length ≤ 1000000) :
  Calls Try.prog 24 #[.agg #[.slice a0 x.r.length c0, .slice a1 x.d.length c1, .slice a2 x.v.length c2]] w fun e w' => ∃ a c, e = .returned (.slice a (startsF 0 x.r).length c) ∧ Own w.heap.size w' 3 1 a (startsF 0 x.r).length c (ints (startsF 0 x.r)) ∧ Below w.heap.size w w' := by
 have hmf' := hmf
 have HX := Lib.hid hx.r
 clear hx
 go_enter Try.func24, Try.ntmps24
 go_upto_region 2 with fail
 refine gen_wz (fun w1 hw1 => ?_)
 have hb1 : Below w.heap.size w w1 := by rw [hw1]; exact ba (ba (b0 w) _) _
 have r1 : Rw w1 w.heap.size #[.slice a0 x.r.length c0, .slice a1 x.d.length c1, .slice a2 x.v.length c2] 46 := by rw [hw1]; exact (Rw.new w _ _).alloc _
 have r3 : Rw w1 (w.heap.size + 1) #[.slice none 0 0] 22 := by rw [hw1]; exact Rw.new' (by simp)
 clear hw1
 obtain ⟨q3, hq3⟩ : ∃ b, b = w.heap.size + 1 := ⟨_, rfl⟩
 rw [← hq3] at r3 ⊢
 have h3l := r3.lt
 have h3g : w.heap.size ≤ q3 := by omega
 have k0 : w1.cell? ⟨w.heap.size, 0, none⟩ = some (.slice a0 x.r.length c0) := r1.cell 0
 have HB1 := Lib.hid hb1; have HR3 := Lib.hid r3
 clear hb1 r1 r3 hq3
 go_wp2_with fail
 clear k0
 go_loopw [11] (fun iv wr => ∃ (i : Nat) (a : Option Addr) (c : Nat), iv = .int .i64 (i : Int) ∧ i ≤ x.r.length ∧ Hid (Rw wr q3 #[.slice a (startsF 0 (x.r.take i)).length c] 22) ∧ Hid (Own w1.heap.size wr 3 1 a (startsF 0 (x.r.take i)).length c (ints (startsF 0 (x.r.take i)))) ∧ Hid (Chg (fun g => g = q3) w1 wr)) (fun iv _ => x.r.length - (intOf iv).toNat)
 case atStart => exact ⟨0, none, 0, rfl, Nat.zero_le _, Lib.hid (by simpa [startsF] using HR3.out), Lib.hid (by simpa [startsF, ints] using Own.nil _ _ _ _), Lib.hid (Chg.refl _ _)⟩
 case round =>
  obtain ⟨i, a, c, rfl, hi, HR, HO, HC⟩ := hrel
  have hsz := HC.out.size
  have hbW : Below w.heap.size w wr := Chg.bt HB1.out HC.out (fun g hg h => by have h' : g = q3 := h; omega)
  have hsl := startsF_len (x.r.take i) 0
  rw [List.length_take] at hsl
  have HBW := Lib.hid hbW
  clear hbW
  by_cases hlt : i < x.r.length
  ·obtain ⟨p, o, rfl, _, hpc⟩ := HX.out.pos (by omega)
   have u0 := cb HBW.out (hpc i _ (ints_get x.r i hlt))
   have HST := Lib.hid (startsF_take hlt)
   generalize x.r[i] = z at *
   clear hpc
   generalize startsF 0 (x.r.take i) = L at *
   go_wp2_with fail
   refine (each_v i z w1.heap.size q3 a c L wr HR.out HO.out (by omega) h3l hsz).mono ?_
   rintro e w2 ⟨rfl, a5, c5, hr5, ho5, hc5⟩
   rw [← HST.out] at hr5 ho5
   have HR5 := Lib.hid hr5; have HO5 := Lib.hid ho5
   have HC5 := Lib.hid (HC.out.trans hc5 (fun g hg h => by rcases h with h | h; exact h; have := h.2; omega))
   clear hr5 ho5 hc5 u0
   go_wp2_with fail
   go_roundw
   case rel => exact ⟨i + 1, a5, c5, by go_num, by omega, HR5, HO5, HC5⟩
   case measure => simp [intOf]; omega
  ·obtain rfl : i = x.r.length := by omega
   clear hlt
   have e1 : startsF 0 (x.r.take x.r.length) = startsF 0 x.r := by rw [List.take_length]
   have hr := HR.out; have ho := HO.out
   rw [e1] at hr ho hsl
   have q0 : wr.cell? ⟨q3, 0, none⟩ = some (.slice a (startsF 0 x.r).length c) := hr.cell 0
   have HO2 := Lib.hid ho.sl
   clear hr ho e1
   go_wp2_with fail
   refine (clone_i _ a _ c _ wr HO2.out (ints_one _) (by omega)).mono ?_
   rintro e w2 ⟨a', cap', rfl, ho, hb⟩
   have HO3 := Lib.hid (ho.mono HBW.out.size); have HB2 := Lib.hid (bt HBW.out hb)
   clear ho hb q0
   go_wp2_with fail
   go_ret
   exact ⟨a', cap', rfl, HO3.out, HB2.out⟩
end Go.Proofs.Ytibhcibcfommeaa
