/-
 What is cut out of a column: plain; the walk of the program's Cut.
-/
import Derived.Test.YtibhcibcfommeaaStarts14
set_option linter.unusedSimpArgs false
namespace Go.Proofs.Ytibhcibcfommeaa
open Go.RowKit Go.Shr
def stL (x : Cl) : List Int := startsF 0 x.r ++ [(x.r.length : Int)]
def cntL (D : Int) (l : List Int) : Nat := (l.filter fun z => z == D).length
def stA (x : Cl) (f : Int) : Nat := ((stL x).getD f.toNat 0).toNat
def cutC (x : Cl) (D f t : Int) : Cl :=
 if f < 0 ∨ ((startsF 0 x.r).length : Int) < t ∨ t < f then ⟨[], [], []⟩
 else ⟨(x.r.drop (stA x f)).take (stA x t - stA x f), (x.d.drop (stA x f)).take (stA x t - stA x f), (x.v.drop (cntL D (x.d.take (stA x f)))).take (cntL D (x.d.take (stA x t)) - cntL D (x.d.take (stA x f)))⟩
theorem startsF_pw : ∀ (q : List Int) (k : Nat), (startsF k q).Pairwise (· < ·)
 | [], _ => by simp [startsF]
 | y :: q, k => by
  have ih := startsF_pw q (k + 1)
  simp only [startsF]
  split
  ·exact List.pairwise_cons.2 ⟨fun z hz => by have := startsF_bd q (k + 1) z hz; omega, ih⟩
  ·exact ih
theorem stL_pw (x : Cl) : (stL x).Pairwise (· < ·) := List.pairwise_append.2 ⟨startsF_pw _ _, by simp, fun a ha b hb => by have := startsF_bd _ _ a ha; rw [List.mem_singleton.1 hb]; omega⟩
theorem stL_len (x : Cl) : (stL x).length = (startsF 0 x.r).length + 1 := by simp [stL]
theorem stL_bd {x : Cl} {z : Int} (h : z ∈ stL x) : 0 ≤ z ∧ z ≤ (x.r.length : Int) := by
 rcases List.mem_append.1 h with h | h
 ·have := startsF_bd _ _ z h; omega
 ·rw [List.mem_singleton.1 h]; omega
theorem stA_get {x : Cl} {i : Nat} (h : i < (stL x).length) : (stL x)[i] = (stA x (i : Int) : Int) := by
 have h1 := stL_bd (List.getElem_mem h)
 unfold stA
 simp only [Int.toNat_natCast, List.getD, List.getElem?_eq_getElem h, Option.getD_some]
 omega
theorem stA_le (x : Cl) (i : Nat) (h : i < (stL x).length) : stA x (i : Int) ≤ x.r.length := by
 have h1 := stL_bd (List.getElem_mem h); have h2 := stA_get h; omega
theorem stA_mono {x : Cl} {i j : Nat} (hij : i ≤ j) (h : j < (stL x).length) : stA x (i : Int) ≤ stA x (j : Int) := by
 by_cases he : i = j
 ·subst he; exact Nat.le_refl _
 ·have h1 := List.pairwise_iff_getElem.1 (stL_pw x) i j (by omega) h (by omega)
  have h2 := stA_get (x := x) (i := i) (by omega); have h3 := stA_get h
  omega
theorem cntL_take_succ {D : Int} {l : List Int} {i : Nat} (h : i < l.length) : cntL D (l.take (i + 1)) = cntL D (l.take i) + if l[i] = D then 1 else 0 := by
 unfold cntL
 rw [List.take_succ_eq_append_getElem h, List.filter_append, List.length_append]
 by_cases he : l[i] = D <;> simp [he]
theorem cntL_mono {D : Int} {l : List Int} {i j : Nat} (h : i ≤ j) : cntL D (l.take i) ≤ cntL D (l.take j) := by
 unfold cntL
 have e : (l.take j).take i = l.take i := by rw [List.take_take, Nat.min_eq_left h]
 rw [← e, ← List.take_append_drop i (l.take j)]
 rw [List.take_append_drop]
 conv => rhs; rw [← List.take_append_drop i (l.take j)]
 rw [List.filter_append, List.length_append]; omega
theorem cntL_le (D : Int) (l : List Int) (i : Nat) : cntL D (l.take i) ≤ cntL D l := by
 have := cntL_mono (D := D) (l := l) (i := i) (j := Nat.max i l.length) (Nat.le_max_left _ _)
 rw [List.take_of_length_le (l := l) (i := Nat.max i l.length) (Nat.le_max_right _ _)] at this
 exact this
set_option maxHeartbeats 1000000 in
set_option maxRecDepth 100000 in
/-- How many values are ahead of a cell. -/
theorem ahead_v (x : Cl) (D : Int) (k b4 b5 : Nat) (a0 a1 a2 : Option Addr) (c0 c1 c2 : Nat) (u0 u1 u3 : Value) (t4 t5 : TypeId) (w : World) (hx : ClAt (fun b => b < w.heap.size) w x a0 c0 a1 c1 a2 c2) (h4 : Rw w b4 #[.slice a0 x.r.length c0, .slice a1 x.d.length c1, .slice a2 x.v.length c2] t4) (h5 : Rw w b5 #[u0, u1, .int .i64 D, u3] t5) (hk : k ≤ x.d.length) (hn : x.d.length ≤ 1000000) (hv : cntL D x.d = x.v.length) :
  Calls Try.prog 44 #[.int .i64 (k : Int), .pointer (some ⟨b4, 0, none⟩), .pointer (some ⟨b5, 0, none⟩)] w fun e w' => e = .returned (.int .i64 (cntL D (x.d.take k) : Int)) ∧ w = w' := by
 obtain ⟨ap, hrun, hs⟩ := Sl.upto (P := Try.prog) (t := 22) (e := 3) Try.underlying22 (info_parts info_i).choose_spec.1 (info_parts info_i).choose_spec.2.2.1 hx.d .i64 (k : Int) (by omega) (by omega)
 have e2 : ((k : Int)).toNat = k := by omega
 rw [e2, Nat.mul_one] at hs
 rw [e2] at hrun
 have k1 : w.cell? ⟨b4, 1, none⟩ = some (.slice a1 x.d.length c1) := h4.cell 1
 have k2 : w.cell? ⟨b4, 2, none⟩ = some (.slice a2 x.v.length c2) := h4.cell 2
 have k5 : w.cell? ⟨b5, 2, none⟩ = some (.int .i64 D) := h5.cell 2
 have hle := cntL_le D x.d k
 have hmv : min (cntL D (x.d.take k) : Int) (x.v.length : Int) = (cntL D (x.d.take k) : Int) := by omega
 have HS := Lib.hid hs
 have hke : (ints x.d).take k = ints (x.d.take k) := by simp [ints, List.map_take]
 have HKE := Lib.hid hke
 have hlt : (x.d.take k).length = k := by rw [List.length_take]; omega
 have HLT := Lib.hid hlt
 clear hx h4 h5 e2 hs hke hlt
 go_enter Try.func44, Try.ntmps44
 go_wp2_with fail
 go_loopw [5, 13] (fun nv iv wr => ∃ i : Nat, nv = .int .i64 (cntL D (x.d.take i) : Int) ∧ iv = .int .i64 (i : Int) ∧ i ≤ k ∧ w = wr) (fun _ iv _ => k - (intOf iv).toNat)
 case atStart => exact ⟨0, by simp [cntL], rfl, Nat.zero_le _, rfl⟩
 case round =>
  obtain ⟨i, rfl, rfl, hi, rfl⟩ := hrel
  by_cases hik : i < k
  ·obtain ⟨p, o, rfl, _, hpc⟩ := HS.out.pos (by omega)
   have hil : i < (x.d.take k).length := by rw [HLT.out]; exact hik
   have hid : i < x.d.length := by omega
   have u0' := hpc i (.int .i64 x.d[i]) (by rw [HKE.out, ints_get _ _ hil]; simp)
   have HCN := Lib.hid (cntL_take_succ (D := D) hid)
   have hcb : cntL D (x.d.take i) ≤ 1000000 := by have h1 := List.length_filter_le (fun z => z == D) (x.d.take i); rw [List.length_take] at h1; unfold cntL; omega
   generalize x.d[i] = z at *
   generalize cntL D (x.d.take i) = n at *
   clear hpc hil
   by_cases hz : z = D
   ·have hb : (z == D) = true := beq_iff_eq.2 hz
    have HN : Hid (cntL D (x.d.take (i + 1)) = n + 1) := Lib.hid (by rw [HCN.out, if_pos hz])
    clear hz HCN
    go_wp2_with fail
    go_roundw
    case rel => exact ⟨i + 1, by rw [HN.out]; go_num, by go_num, by omega, by first | rfl | trivial⟩
    case measure => simp [intOf]; omega
   ·have hb : (z == D) = false := beq_eq_false_iff_ne.2 hz
    have HN : Hid (cntL D (x.d.take (i + 1)) = n) := Lib.hid (by rw [HCN.out, if_neg hz, Nat.add_zero])
    clear hz HCN
    go_wp2_with fail
    go_roundw
    case rel => exact ⟨i + 1, by rw [HN.out], by go_num, by omega, by first | rfl | trivial⟩
    case measure => simp [intOf]; omega
  ·obtain rfl : i = k := by omega
   go_wp2_with fail
   go_ret
   exact ⟨by first | rfl | trivial, by first | rfl | trivial⟩
theorem bel_nb {B : Nat} {w1 W X : World} {o : Obj} (_ : Below B w1 W) (hX : X = W.alloc o) : Below W.heap.size W X := by rw [hX]; exact ba (b0 W) _
theorem bel_nr {B : Nat} {w1 W X : World} {cur : Array Value} {t : TypeId} (_ : Below B w1 W) (hX : X = W.alloc (.cells cur t)) : Rw X W.heap.size cur t := by rw [hX]; exact Rw.new W _ _
/-- What is told of a column's part: its rows are new. -/
def CutQ (y : Cl) (w : World) (e : Ending) (w' : World) : Prop :=
 ∃ a0 c0 a1 c1 a2 c2, e = .returned (.agg #[.slice a0 y.r.length c0, .slice a1 y.d.length c1, .slice a2 y.v.length c2]) ∧ ClAt (fun b => w.heap.size ≤ b ∧ b < w'.heap.size) w' y a0 c0 a1 c1 a2 c2 ∧ Below w.heap.size w w'
theorem ints_part (l : List Int) (a n : Nat) : ((ints l).drop a).take n = ints ((l.drop a).take n) := by simp [ints, List.map_drop, List.map_take]
theorem vcs_part : ∀ (l : List Vc) (a n : Nat), ((vcs l).drop (a * 2)).take (n * 2) = vcs ((l.drop a).take n)
 | [], a, n => by simp [vcs]
 | x :: l, 0, 0 => by simp [vcs]
 | x :: l, 0, n + 1 => by
  have := vcs_part l 0 n
  simp only [Nat.zero_mul, List.drop_zero] at this ⊢
  rw [show (n + 1) * 2 = n * 2 + 1 + 1 by omega]
  simp only [vcs, List.flatMap_cons, List.cons_append, List.nil_append, List.take_succ_cons] at this ⊢
  rw [this]
 | x :: l, a + 1, n => by
  have := vcs_part l a n
  rw [show (a + 1) * 2 = a * 2 + 1 + 1 by omega]
  simp only [vcs, List.flatMap_cons, List.cons_append, List.nil_append, List.drop_succ_cons] at this ⊢
  exact this
theorem part_len {α : Type} (l : List α) {a n : Nat} (h : a + n ≤ l.length) : ((l.drop a).take n).length = n := by rw [List.length_take, List.length_drop]; omega
set_option maxHeartbeats 2000000 in
set_option maxRecDepth 100000 in
theorem cut_v (x : Cl) (D f t : Int) (u0 u1 u3 : Int) (a0 a1 a2 : Option Addr) (c0 c1 c2 : Nat) (w : World) (hx : ClAt (fun b => b < w.heap.size) w x a0 c0 a1 c1 a2 c2) (hn : x.d.length ≤ 1000000) (hl : x.r.length = x.d.length) (hv : cntL D x.d = x.v.length) :
  Calls Try.prog 26 #[.agg #[.slice a0 x.r.length c0, .slice a1 x.d.length c1, .slice a2 x.v.length c2], .agg #[.int .i64 u0, .int .i64 u1, .int .i64 D, .int .i64 u3], .int .i64 f, .int .i64 t] w (CutQ (cutC x D f t) w) := by
 obtain ⟨ii, hii, hz0i, hz1i, hz2i⟩ := info_parts info_i
 have hmf' := hmf
 have HX := Lib.hid hx; have HV := Lib.hid hv; have HL := Lib.hid hl
 have hrn : x.r.length ≤ 1000000 := by omega
 have hvn : x.v.length ≤ 1000000 := by have h1 := List.length_filter_le (fun z => z == D) x.d; unfold cntL at hv; omega
 clear hx hl hv
 go_enter Try.func26, Try.ntmps26
 go_upto_region 1 with fail
 refine gen_wz (fun w1 hw1 => ?_)
 have hb1 : Below w.heap.size w w1 := by rw [hw1]; exact ba (ba (ba (b0 w) _) _) _
 have r4 : Rw w1 w.heap.size #[.slice a0 x.r.length c0, .slice a1 x.d.length c1, .slice a2 x.v.length c2] 46 := by rw [hw1]; exact ((Rw.new w _ _).alloc _).alloc _
 have r5 : Rw w1 (w.heap.size + 1) #[.int .i64 u0, .int .i64 u1, .int .i64 D, .int .i64 u3] 48 := by rw [hw1]; exact (Rw.new' (by simp)).alloc _
 have r8 : Rw w1 (w.heap.size + 1 + 1) #[.slice none 0 0, .slice none 0 0, .slice none 0 0] 46 := by rw [hw1]; exact Rw.new' (by simp)
 clear hw1
 obtain ⟨q8, hq8⟩ : ∃ b, b = w.heap.size + 1 + 1 := ⟨_, rfl⟩
 obtain ⟨q5, hq5⟩ : ∃ b, b = w.heap.size + 1 := ⟨_, rfl⟩
 rw [← hq8] at r8 ⊢
 rw [← hq5] at r5 ⊢
 have h84 : q8 ≠ w.heap.size := by omega
 have h85 : q8 ≠ q5 := by omega
 have h8l := r8.lt
 have h8w : w.heap.size ≤ q8 := by omega
 have k0 : w1.cell? ⟨w.heap.size, 0, none⟩ = some (.slice a0 x.r.length c0) := r4.cell 0
 have k1 : w1.cell? ⟨w.heap.size, 1, none⟩ = some (.slice a1 x.d.length c1) := r4.cell 1
 have k2 : w1.cell? ⟨w.heap.size, 2, none⟩ = some (.slice a2 x.v.length c2) := r4.cell 2
 have HK := Lib.hid (And.intro k0 (And.intro k1 k2))
 have R4 := Lib.hid r4; have R5 := Lib.hid r5; have R8 := Lib.hid r8; have HB1 := Lib.hid hb1
 have HSL := startsF_len x.r 0
 clear k0 k1 k2 r4 r5 r8 hb1 hq8 hq5
 have HST : Hid (ints (startsF 0 x.r) ++ [Value.int .i64 (x.r.length : Int)] = ints (stL x)) := Lib.hid (by unfold stL; rw [ints_snoc])
 have HSN := Lib.hid (stL_len x)
 go_cut [9] from 14 to 20 (fun v wd => ∃ (as' : Option Addr) (cs : Nat), v = .slice as' ((startsF 0 x.r).length + 1) cs ∧ Hid (Own w1.heap.size wd 3 1 as' ((startsF 0 x.r).length + 1) cs (ints (stL x))) ∧ Hid (Below w1.heap.size w1 wd))
 case first =>
  refine wp_region_F (fun w' => w'.cell? ⟨w.heap.size, 0, none⟩ = some (.slice a0 x.r.length c0) ∧ w'.cell? ⟨w.heap.size, 1, none⟩ = some (.slice a1 x.d.length c1) ∧ w'.cell? ⟨w.heap.size, 2, none⟩ = some (.slice a2 x.v.length c2)) [7] (by kernel_rfl) ?g40rgS (fun hHeld => ?g40rgR)
  case g40rgS => (try dsimp only); (first | exact HK.out | exact ⟨cb HBW HK.out.1, cb HBW HK.out.2.1, cb HBW HK.out.2.2⟩)
  try dsimp only at hHeld
  obtain ⟨W, hW⟩ : ∃ W, W = w1.drew := ⟨_, rfl⟩; rw [← hW] at hHeld ⊢; (have HBW : Below w1.heap.size w1 W := by rw [hW]; exact (b0 w1).drew); clear hW
  refine wpAnyF_take 0 (oi := ⟨some 14, .load 46 (.tmp 4), 46, "shred.go:140", #[], none⟩) (v := ?g40rv1) rfl (by kernel_rfl) (fun _ _ _ h => h) (by assumption) (by rfl) ?g40ry1 ?g40rr1
  case g40ry1 => intro w hSw; obtain ⟨s0, s1, s2⟩ := hSw; go_simp; try with_reducible rfl
  try simp only [Act.put, pA, pB, pC]
  refine wpAnyF_take 2 (oi := ⟨some 16, .fieldAddr 46 (.tmp 4) 0, 0, "shred.go:140", #[], none⟩) (v := ?g40rv2) rfl (by kernel_rfl) (fun _ _ _ h => h) (by assumption) (by rfl) ?g40ry2 ?g40rr2
  case g40ry2 => intro w hSw; obtain ⟨s0, s1, s2⟩ := hSw; go_simp; try with_reducible rfl
  try simp only [Act.put, pA, pB, pC]
  refine wpAnyF_take 3 (oi := ⟨some 17, .load 22 (.tmp 16), 22, "shred.go:140", #[⟨2, .data⟩], none⟩) (v := ?g40rv3) rfl (by kernel_rfl) (fun _ _ _ h => h) (by assumption) (by rfl) ?g40ry3 ?g40rr3
  case g40ry3 => intro w hSw; obtain ⟨s0, s1, s2⟩ := hSw; go_simp; try with_reducible rfl
  try simp only [Act.put, pA, pB, pC]
  refine wpAnyF_take 4 (oi := ⟨some 18, .call { callee := .builtin .len, args := #[.tmp 17], argTypes := #[22] }, 3, "shred.go:140", #[⟨3, .data⟩], none⟩) (v := ?g40rv4) rfl (by kernel_rfl) (fun _ _ _ h => h) (by assumption) (by rfl) ?g40ry4 ?g40rr4
  case g40ry4 => intro w hSw; obtain ⟨s0, s1, s2⟩ := hSw; go_simp; try with_reducible rfl
  try simp only [Act.put, pA, pB, pC]
  refine wpAnyF_ready [1, 5] (by kernel_rfl) (by simp) ?_
  refine AllReadyF.cons 1 (o := ⟨some 15, .call { callee := .value (.func 24), args := #[.tmp 14], argTypes := #[46] }, 22, "shred.go:140", #[⟨0, .data⟩], none⟩) rfl (fun K hK => ?g40ro5) ?g40rm5
  case g40ro5 =>
   go_simp; refine (starts_v x a0 a1 a2 c0 c1 c2 _ (HX.out.below (bt HB1.out HBW)) hrn).mono ?_; rintro e w2 ⟨as', cs, rfl, hos, hbk⟩; dsimp only; (replace hos := hos.mono HBW.size);  skip; (replace HBW := bt HBW hbk); clear hbk
   refine hK.out _ _ ?g40rs5 (fun hHeld => ?g40rt5)
   case g40rs5 => (try dsimp only); (first | exact HK.out | exact ⟨cb HBW HK.out.1, cb HBW HK.out.2.1, cb HBW HK.out.2.2⟩)
   try dsimp only at hHeld
   clear hK K
   try simp only [Act.put, pA, pB, pC]
   refine wpAnyF_ready [5] (by kernel_rfl) (by simp) ?_
   refine AllReadyF.cons 5 (o := ⟨some 19, .buildSlice 22 1 #[(0, .tmp 18)], 22, "shred.go:140", #[⟨4, .data⟩], none⟩) rfl (fun K hK => ?g40ro6) ?g40rm6
   case g40rm6 => exact AllReadyF.nil
   go_simp; refine gen_w (fun X hX => ?_); (have hbk := bel_nb HBW hX); (have rn := bel_nr HBW hX);  (replace hos := hos.below hbk) ; (replace HBW := bt HBW hbk); clear hX hbk
   refine hK.out _ _ ?g40rs6 (fun hHeld => ?g40rt6)
   case g40rs6 => (try dsimp only); (first | exact HK.out | exact ⟨cb HBW HK.out.1, cb HBW HK.out.2.1, cb HBW HK.out.2.2⟩)
   try dsimp only at hHeld
   clear hK K
   try simp only [Act.put, pA, pB, pC]
   refine wpAnyF_ready [6] (by kernel_rfl) (by simp) ?_
   refine AllReadyF.cons 6 (o := ⟨some 20, .call { callee := .builtin .append, args := #[.tmp 15, .tmp 19], argTypes := #[22, 22] }, 22, "shred.go:140", #[⟨1, .data⟩, ⟨5, .data⟩, ⟨1, .chain⟩], none⟩) rfl (fun K hK => ?g40ro7) ?g40rm7
   case g40rm7 => exact AllReadyF.nil
   (refine step_append (B := w1.heap.size) rfl _ _ _ _ rfl ii (.int .i64 0) 8 Try.underlying22 hii hz0i hz1i hz2i rfl rfl hos _ rfl 1 _ (src_rw (P := Try.prog) (tx := 22) Try.underlying22 rn 1 1 rfl (by simp [Value.oneCell'])) (by simp only [maxLen]; omega) (by omega) HBW.size ?_; intro a6 cap6 W6 ho6 hc6 hn6); (replace HBW := Chg.bt HBW hc6 (fun i hi h => by have := h.2.1; omega)); clear hc6 hn6 rn hos
   refine hK.out _ _ ?g40rs7 (fun hHeld => ?g40rt7)
   case g40rs7 => (try dsimp only); (first | exact HK.out | exact ⟨cb HBW HK.out.1, cb HBW HK.out.2.1, cb HBW HK.out.2.2⟩)
   try dsimp only at hHeld
   clear hK K
   try simp only [Act.put, pA, pB, pC]
   refine wpAnyF_ready [7] (by kernel_rfl) (by simp) ?_
   refine AllReadyF.last 7 (o := ⟨some 9, .assign (.tmp 20), 22, "shred.go:140", #[⟨6, .data⟩, ⟨6, .chain⟩, ⟨0, .phase⟩, ⟨1, .phase⟩, ⟨2, .phase⟩, ⟨3, .phase⟩, ⟨4, .phase⟩, ⟨5, .phase⟩, ⟨6, .phase⟩], none⟩) rfl (by kernel_rfl) (fun K hK => ?g40ro8) ?g40rm8
   case g40rm8 => exact AllReadyF.nil
   go_simp
   refine hK.out _ _ ?_
   clear hK K
   try simp only [Act.put, pA, pB, pC]
   refine wpAnyF_done (by kernel_rfl) ?_
   (try simp only [List.toList_toArray] at ho6)
   rw [HST.out] at ho6
   have HO6 := Lib.hid ho6; have HBF := Lib.hid HBW
   clear ho6 HBW
   go_wp2_with fail
   go_meet
   case rel => exact ⟨a6, cap6, rfl, HO6, HBF⟩
  case g40rm5 =>
  refine AllReadyF.cons 5 (o := ⟨some 19, .buildSlice 22 1 #[(0, .tmp 18)], 22, "shred.go:140", #[⟨4, .data⟩], none⟩) rfl (fun K hK => ?g40ro9) ?g40rm9
  case g40ro9 =>
   go_simp; refine gen_w (fun X hX => ?_); (have hbk := bel_nb HBW hX); (have rn := bel_nr HBW hX);  skip; (replace HBW := bt HBW hbk); clear hX hbk
   refine hK.out _ _ ?g40rs9 (fun hHeld => ?g40rt9)
   case g40rs9 => (try dsimp only); (first | exact HK.out | exact ⟨cb HBW HK.out.1, cb HBW HK.out.2.1, cb HBW HK.out.2.2⟩)
   try dsimp only at hHeld
   clear hK K
   try simp only [Act.put, pA, pB, pC]
   refine wpAnyF_ready [1] (by kernel_rfl) (by simp) ?_
   refine AllReadyF.cons 1 (o := ⟨some 15, .call { callee := .value (.func 24), args := #[.tmp 14], argTypes := #[46] }, 22, "shred.go:140", #[⟨0, .data⟩], none⟩) rfl (fun K hK => ?g40ro10) ?g40rm10
   case g40rm10 => exact AllReadyF.nil
   go_simp; refine (starts_v x a0 a1 a2 c0 c1 c2 _ (HX.out.below (bt HB1.out HBW)) hrn).mono ?_; rintro e w2 ⟨as', cs, rfl, hos, hbk⟩; dsimp only; (replace hos := hos.mono HBW.size);  (replace rn := rn.below hbk) ; (replace HBW := bt HBW hbk); clear hbk
   refine hK.out _ _ ?g40rs10 (fun hHeld => ?g40rt10)
   case g40rs10 => (try dsimp only); (first | exact HK.out | exact ⟨cb HBW HK.out.1, cb HBW HK.out.2.1, cb HBW HK.out.2.2⟩)
   try dsimp only at hHeld
   clear hK K
   try simp only [Act.put, pA, pB, pC]
   refine wpAnyF_ready [6] (by kernel_rfl) (by simp) ?_
   refine AllReadyF.cons 6 (o := ⟨some 20, .call { callee := .builtin .append, args := #[.tmp 15, .tmp 19], argTypes := #[22, 22] }, 22, "shred.go:140", #[⟨1, .data⟩, ⟨5, .data⟩, ⟨1, .chain⟩], none⟩) rfl (fun K hK => ?g40ro11) ?g40rm11
   case g40rm11 => exact AllReadyF.nil
   (refine step_append (B := w1.heap.size) rfl _ _ _ _ rfl ii (.int .i64 0) 8 Try.underlying22 hii hz0i hz1i hz2i rfl rfl hos _ rfl 1 _ (src_rw (P := Try.prog) (tx := 22) Try.underlying22 rn 1 1 rfl (by simp [Value.oneCell'])) (by simp only [maxLen]; omega) (by omega) HBW.size ?_; intro a6 cap6 W6 ho6 hc6 hn6); (replace HBW := Chg.bt HBW hc6 (fun i hi h => by have := h.2.1; omega)); clear hc6 hn6 rn hos
   refine hK.out _ _ ?g40rs11 (fun hHeld => ?g40rt11)
   case g40rs11 => (try dsimp only); (first | exact HK.out | exact ⟨cb HBW HK.out.1, cb HBW HK.out.2.1, cb HBW HK.out.2.2⟩)
   try dsimp only at hHeld
   clear hK K
   try simp only [Act.put, pA, pB, pC]
   refine wpAnyF_ready [7] (by kernel_rfl) (by simp) ?_
   refine AllReadyF.last 7 (o := ⟨some 9, .assign (.tmp 20), 22, "shred.go:140", #[⟨6, .data⟩, ⟨6, .chain⟩, ⟨0, .phase⟩, ⟨1, .phase⟩, ⟨2, .phase⟩, ⟨3, .phase⟩, ⟨4, .phase⟩, ⟨5, .phase⟩, ⟨6, .phase⟩], none⟩) rfl (by kernel_rfl) (fun K hK => ?g40ro12) ?g40rm12
   case g40rm12 => exact AllReadyF.nil
   go_simp
   refine hK.out _ _ ?_
   clear hK K
   try simp only [Act.put, pA, pB, pC]
   refine wpAnyF_done (by kernel_rfl) ?_
   (try simp only [List.toList_toArray] at ho6)
   rw [HST.out] at ho6
   have HO6 := Lib.hid ho6; have HBF := Lib.hid HBW
   clear ho6 HBW
   go_wp2_with fail
   go_meet
   case rel => exact ⟨a6, cap6, rfl, HO6, HBF⟩
  case g40rm9 =>
  exact AllReadyF.nil
 case rest =>
  obtain ⟨as', cs, rfl, HOS, HBC⟩ := hcut
  have R8C := Lib.hid (R8.out.below HBC.out)
  have rz := Rw.set3 R8C.out (u0 := .slice none 0 0) (u1 := .slice none 0 0) (u2 := .slice none 0 0)
  have y0 : wc.cell? ⟨q8, 0, none⟩ = some (.slice none 0 0) := R8C.out.cell 0
  have y1 : wc.cell? ⟨q8, 1, none⟩ = some (.slice none 0 0) := R8C.out.cell 1
  have y2 : wc.cell? ⟨q8, 2, none⟩ = some (.slice none 0 0) := R8C.out.cell 2
  have qf := R8C.out.frozen
  have ql := R8C.out.lt
  have z0 := rz.cell 0; have z1 := rz.cell 1; have z2 := rz.cell 2
  simp only [List.getElem?_toArray, List.getElem?_cons_zero, List.getElem?_cons_succ] at z0 z1 z2
  have HBW := Lib.hid (bt HB1.out HBC.out)
  have HBAD : Hid ((f < 0 ∨ ((startsF 0 x.r).length : Int) < t ∨ t < f) → CutQ (cutC x D f t) w (.returned (.agg #[.slice none 0 0, .slice none 0 0, .slice none 0 0])) (((wc.setCell ⟨q8, 0, none⟩ (.slice none 0 0)).setCell ⟨q8, 1, none⟩ (.slice none 0 0)).setCell ⟨q8, 2, none⟩ (.slice none 0 0))) := Lib.hid (fun h => by
   unfold cutC
   rw [if_pos h]
   exact ⟨none, 0, none, 0, none, 0, rfl, ⟨Sl.nil _ _ _ _, Sl.nil _ _ _ _, Sl.nil _ _ _ _⟩, bset3 HBW.out h8w⟩)
  clear rz
  by_cases hf0 : f < 0
  ·go_wp2_with fail
   refine bodyPost_ret (v := .agg #[.slice none 0 0, .slice none 0 0, .slice none 0 0]) (by simp [results, Try.results26, go_sem, z0, z1, z2]) rfl ?_
   exact HBAD.out (.inl hf0)
  have hf0' : ¬ (f < 0) := hf0
  by_cases hft : ((startsF 0 x.r).length : Int) < t
  ·go_wp2_with fail
   refine bodyPost_ret (v := .agg #[.slice none 0 0, .slice none 0 0, .slice none 0 0]) (by simp [results, Try.results26, go_sem, z0, z1, z2]) rfl ?_
   exact HBAD.out (.inr (.inl hft))
  by_cases htf : t < f
  ·go_wp2_with fail
   refine bodyPost_ret (v := .agg #[.slice none 0 0, .slice none 0 0, .slice none 0 0]) (by simp [results, Try.results26, go_sem, z0, z1, z2]) rfl ?_
   exact HBAD.out (.inr (.inr htf))
  clear HBAD z0 z1 z2 y0 y1 y2 qf ql
  obtain ⟨F, rfl⟩ : ∃ F : Nat, f = (F : Int) := ⟨f.toNat, by omega⟩
  obtain ⟨T, rfl⟩ : ∃ T : Nat, t = (T : Int) := ⟨t.toNat, by omega⟩
  have hFT : F ≤ T := by omega
  have hTn : T < (stL x).length := by rw [HSN.out]; omega
  have hab := stA_mono hFT hTn
  have hbl := stA_le x T hTn
  have vF : (ints (stL x))[F]? = some (.int .i64 (stA x (F : Int) : Int)) := by rw [ints_get _ _ (by omega), stA_get]
  have vT : (ints (stL x))[T]? = some (.int .i64 (stA x (T : Int) : Int)) := by rw [ints_get _ _ (by omega), stA_get]
  have HC : Hid (cutC x D (F : Int) (T : Int) = ⟨(x.r.drop (stA x (F : Int))).take (stA x (T : Int) - stA x (F : Int)), (x.d.drop (stA x (F : Int))).take (stA x (T : Int) - stA x (F : Int)), (x.v.drop (cntL D (x.d.take (stA x (F : Int))))).take (cntL D (x.d.take (stA x (T : Int))) - cntL D (x.d.take (stA x (F : Int))))⟩) := Lib.hid (by
   unfold cutC
   rw [if_neg (by omega)])
  generalize stA x (F : Int) = A at *
  generalize stA x (T : Int) = B at *
  have hbd : B ≤ x.d.length := by have := HL.out; omega
  have hbv := cntL_le D x.d B
  rw [HV.out] at hbv
  have hcab := cntL_mono (D := D) (l := x.d) hab
  obtain ⟨gs, has, _, _, hgc, _⟩ := HOS.out.pos (by omega)
  have s0 := hgc _ _ vF; have s1 := hgc _ _ vT
  subst has
  have k0 := cb HBC.out HK.out.1; have k1 := cb HBC.out HK.out.2.1; have k2 := cb HBC.out HK.out.2.2
  have HXW := Lib.hid (HX.out.below HBW.out)
  have R4C := Lib.hid (R4.out.below HBC.out); have R5C := Lib.hid (R5.out.below HBC.out)
  have hma : ¬ ((x.d.length : Int) < (A : Int)) := by omega
  have hmb : ¬ ((x.d.length : Int) < (B : Int)) := by omega
  have hsF : (F : Int) < ((startsF 0 x.r).length : Int) + 1 := by omega
  have hsT : (T : Int) < ((startsF 0 x.r).length : Int) + 1 := by omega
  have HZ := Lib.hid (And.intro s0 (And.intro s1 k1))
  clear vF vT hgc hf0 hf0' hft htf
  go_upto_region 5 with fail
  clear s0 s1 k0 k1 k2
  refine wp_region_F (fun w' => w'.cell? ⟨gs, F, none⟩ = some (.int .i64 (A : Int)) ∧ w'.cell? ⟨gs, T, none⟩ = some (.int .i64 (B : Int)) ∧ w'.cell? ⟨w.heap.size, 1, none⟩ = some (.slice a1 x.d.length c1)) [] (by kernel_rfl) ?g41rgS (fun hHeld => ?g41rgR)
  case g41rgS => (try dsimp only); (exact HZ.out)
  try dsimp only at hHeld
  refine wpAnyF_take 0 (oi := ⟨some 37, .move (.tmp 9), 22, "shred.go:145", #[], none⟩) (v := ?g41rv1) rfl (by kernel_rfl) (fun _ _ _ h => h) (by assumption) (by rfl) ?g41ry1 ?g41rr1
  case g41ry1 => intro w hSw; obtain ⟨s0, s1, s2⟩ := hSw; go_simp; try with_reducible rfl
  try simp only [Act.put, pA, pB, pC]
  refine wpAnyF_take 1 (oi := ⟨some 38, .move (.tmp 2), 3, "shred.go:145", #[], none⟩) (v := ?g41rv2) rfl (by kernel_rfl) (fun _ _ _ h => h) (by assumption) (by rfl) ?g41ry2 ?g41rr2
  case g41ry2 => intro w hSw; obtain ⟨s0, s1, s2⟩ := hSw; go_simp; try with_reducible rfl
  try simp only [Act.put, pA, pB, pC]
  refine wpAnyF_take 2 (oi := ⟨some 39, .indexAddr 22 (.tmp 37) (.tmp 38), 0, "shred.go:145", #[⟨0, .data⟩, ⟨1, .data⟩], none⟩) (v := ?g41rv3) rfl (by kernel_rfl) (fun _ _ _ h => h) (by assumption) (by rfl) ?g41ry3 ?g41rr3
  case g41ry3 => intro w hSw; obtain ⟨s0, s1, s2⟩ := hSw; go_simp; try with_reducible rfl
  try simp only [Act.put, pA, pB, pC]
  refine wpAnyF_take 3 (oi := ⟨some 40, .load 3 (.tmp 39), 3, "shred.go:145", #[⟨2, .data⟩], none⟩) (v := ?g41rv4) rfl (by kernel_rfl) (fun _ _ _ h => h) (by assumption) (by rfl) ?g41ry4 ?g41rr4
  case g41ry4 => intro w hSw; obtain ⟨s0, s1, s2⟩ := hSw; go_simp; try with_reducible rfl
  try simp only [Act.put, pA, pB, pC]
  refine wpAnyF_take 4 (oi := ⟨some 41, .fieldAddr 46 (.tmp 4) 1, 0, "shred.go:145", #[], none⟩) (v := ?g41rv5) rfl (by kernel_rfl) (fun _ _ _ h => h) (by assumption) (by rfl) ?g41ry5 ?g41rr5
  case g41ry5 => intro w hSw; obtain ⟨s0, s1, s2⟩ := hSw; go_simp; try with_reducible rfl
  try simp only [Act.put, pA, pB, pC]
  refine wpAnyF_take 5 (oi := ⟨some 42, .load 22 (.tmp 41), 22, "shred.go:145", #[⟨4, .data⟩], none⟩) (v := ?g41rv6) rfl (by kernel_rfl) (fun _ _ _ h => h) (by assumption) (by rfl) ?g41ry6 ?g41rr6
  case g41ry6 => intro w hSw; obtain ⟨s0, s1, s2⟩ := hSw; go_simp; try with_reducible rfl
  try simp only [Act.put, pA, pB, pC]
  refine wpAnyF_take 6 (oi := ⟨some 43, .call { callee := .builtin .len, args := #[.tmp 42], argTypes := #[22] }, 3, "shred.go:145", #[⟨5, .data⟩], none⟩) (v := ?g41rv7) rfl (by kernel_rfl) (fun _ _ _ h => h) (by assumption) (by rfl) ?g41ry7 ?g41rr7
  case g41ry7 => intro w hSw; obtain ⟨s0, s1, s2⟩ := hSw; go_simp; try with_reducible rfl
  try simp only [Act.put, pA, pB, pC]
  refine wpAnyF_take 7 (oi := ⟨some 44, .call { callee := .builtin .min, args := #[.tmp 40, .tmp 43], argTypes := #[3, 3] }, 3, "shred.go:145", #[⟨3, .data⟩, ⟨6, .data⟩], none⟩) (v := ?g41rv8) rfl (by kernel_rfl) (fun _ _ _ h => h) (by assumption) (by rfl) ?g41ry8 ?g41rr8
  case g41ry8 => intro w hSw; obtain ⟨s0, s1, s2⟩ := hSw; go_simp; try with_reducible rfl
  try simp only [Act.put, pA, pB, pC]
  refine wpAnyF_take 8 (oi := ⟨some 45, .move (.tmp 9), 22, "shred.go:145", #[], none⟩) (v := ?g41rv9) rfl (by kernel_rfl) (fun _ _ _ h => h) (by assumption) (by rfl) ?g41ry9 ?g41rr9
  case g41ry9 => intro w hSw; obtain ⟨s0, s1, s2⟩ := hSw; go_simp; try with_reducible rfl
  try simp only [Act.put, pA, pB, pC]
  refine wpAnyF_take 9 (oi := ⟨some 46, .move (.tmp 3), 3, "shred.go:145", #[], none⟩) (v := ?g41rv10) rfl (by kernel_rfl) (fun _ _ _ h => h) (by assumption) (by rfl) ?g41ry10 ?g41rr10
  case g41ry10 => intro w hSw; obtain ⟨s0, s1, s2⟩ := hSw; go_simp; try with_reducible rfl
  try simp only [Act.put, pA, pB, pC]
  refine wpAnyF_take 10 (oi := ⟨some 47, .indexAddr 22 (.tmp 45) (.tmp 46), 0, "shred.go:145", #[⟨8, .data⟩, ⟨9, .data⟩], none⟩) (v := ?g41rv11) rfl (by kernel_rfl) (fun _ _ _ h => h) (by assumption) (by rfl) ?g41ry11 ?g41rr11
  case g41ry11 => intro w hSw; obtain ⟨s0, s1, s2⟩ := hSw; go_simp; try with_reducible rfl
  try simp only [Act.put, pA, pB, pC]
  refine wpAnyF_take 11 (oi := ⟨some 48, .load 3 (.tmp 47), 3, "shred.go:145", #[⟨10, .data⟩], none⟩) (v := ?g41rv12) rfl (by kernel_rfl) (fun _ _ _ h => h) (by assumption) (by rfl) ?g41ry12 ?g41rr12
  case g41ry12 => intro w hSw; obtain ⟨s0, s1, s2⟩ := hSw; go_simp; try with_reducible rfl
  try simp only [Act.put, pA, pB, pC]
  refine wpAnyF_take 12 (oi := ⟨some 49, .fieldAddr 46 (.tmp 4) 1, 0, "shred.go:145", #[], none⟩) (v := ?g41rv13) rfl (by kernel_rfl) (fun _ _ _ h => h) (by assumption) (by rfl) ?g41ry13 ?g41rr13
  case g41ry13 => intro w hSw; obtain ⟨s0, s1, s2⟩ := hSw; go_simp; try with_reducible rfl
  try simp only [Act.put, pA, pB, pC]
  refine wpAnyF_take 13 (oi := ⟨some 50, .load 22 (.tmp 49), 22, "shred.go:145", #[⟨12, .data⟩], none⟩) (v := ?g41rv14) rfl (by kernel_rfl) (fun _ _ _ h => h) (by assumption) (by rfl) ?g41ry14 ?g41rr14
  case g41ry14 => intro w hSw; obtain ⟨s0, s1, s2⟩ := hSw; go_simp; try with_reducible rfl
  try simp only [Act.put, pA, pB, pC]
  refine wpAnyF_take 14 (oi := ⟨some 51, .call { callee := .builtin .len, args := #[.tmp 50], argTypes := #[22] }, 3, "shred.go:145", #[⟨13, .data⟩], none⟩) (v := ?g41rv15) rfl (by kernel_rfl) (fun _ _ _ h => h) (by assumption) (by rfl) ?g41ry15 ?g41rr15
  case g41ry15 => intro w hSw; obtain ⟨s0, s1, s2⟩ := hSw; go_simp; try with_reducible rfl
  try simp only [Act.put, pA, pB, pC]
  refine wpAnyF_take 15 (oi := ⟨some 52, .call { callee := .builtin .min, args := #[.tmp 48, .tmp 51], argTypes := #[3, 3] }, 3, "shred.go:145", #[⟨11, .data⟩, ⟨14, .data⟩], none⟩) (v := ?g41rv16) rfl (by kernel_rfl) (fun _ _ _ h => h) (by assumption) (by rfl) ?g41ry16 ?g41rr16
  case g41ry16 => intro w hSw; obtain ⟨s0, s1, s2⟩ := hSw; go_simp; try with_reducible rfl
  try simp only [Act.put, pA, pB, pC]
  refine wpAnyF_take 16 (oi := ⟨some 11, .assign (.tmp 44), 3, "shred.go:145", #[⟨7, .data⟩, ⟨0, .phase⟩, ⟨1, .phase⟩, ⟨2, .phase⟩, ⟨3, .phase⟩, ⟨4, .phase⟩, ⟨5, .phase⟩, ⟨6, .phase⟩, ⟨7, .phase⟩, { on := 8, ground := Go.Ground.textOnly Go.Departure.lateStores }, { on := 9, ground := Go.Ground.textOnly Go.Departure.lateStores }, { on := 10, ground := Go.Ground.textOnly Go.Departure.lateStores }, { on := 11, ground := Go.Ground.textOnly Go.Departure.lateStores }, { on := 12, ground := Go.Ground.textOnly Go.Departure.lateStores }, { on := 13, ground := Go.Ground.textOnly Go.Departure.lateStores }, { on := 14, ground := Go.Ground.textOnly Go.Departure.lateStoresUnsure }, { on := 15, ground := Go.Ground.textOnly Go.Departure.lateStoresUnsure }], none⟩) (v := ?g41rv17) rfl (by kernel_rfl) (fun _ _ _ h => h) (by assumption) (by rfl) ?g41ry17 ?g41rr17
  case g41ry17 => intro w hSw; obtain ⟨s0, s1, s2⟩ := hSw; go_simp; try with_reducible rfl
  try simp only [Act.put, pA, pB, pC]
  refine wpAnyF_take 17 (oi := ⟨some 12, .assign (.tmp 52), 3, "shred.go:145", #[⟨15, .data⟩, ⟨16, .chain⟩, ⟨0, .phase⟩, ⟨1, .phase⟩, ⟨2, .phase⟩, ⟨3, .phase⟩, ⟨4, .phase⟩, ⟨5, .phase⟩, ⟨6, .phase⟩, ⟨7, .phase⟩, ⟨8, .phase⟩, ⟨9, .phase⟩, ⟨10, .phase⟩, ⟨11, .phase⟩, ⟨12, .phase⟩, ⟨13, .phase⟩, ⟨14, .phase⟩, ⟨15, .phase⟩, ⟨16, .phase⟩], none⟩) (v := ?g41rv18) rfl (by kernel_rfl) (fun _ _ _ h => h) (by assumption) (by rfl) ?g41ry18 ?g41rr18
  case g41ry18 => intro w hSw; obtain ⟨s0, s1, s2⟩ := hSw; go_simp; try with_reducible rfl
  try simp only [Act.put, pA, pB, pC]
  refine wpAnyF_done (by kernel_rfl) ?_
  clear hHeld hma hmb hsF hsT HZ
  obtain ⟨pr, hrunR, hsR⟩ := Sl.part (P := Try.prog) (t := 22) (e := 3) Try.underlying22 (info_parts info_i).choose_spec.1 (info_parts info_i).choose_spec.2.2.1 HXW.out.r .i64 .i64 (A : Int) (B : Int) (by omega) (by omega) (by omega)
  obtain ⟨pd, hrunD, hsD⟩ := Sl.part (P := Try.prog) (t := 22) (e := 3) Try.underlying22 (info_parts info_i).choose_spec.1 (info_parts info_i).choose_spec.2.2.1 HXW.out.d .i64 .i64 (A : Int) (B : Int) (by omega) (by omega) (by omega)
  obtain ⟨pv, hrunV, hsV⟩ := Sl.part (P := Try.prog) (t := 44) (e := 54) Try.underlying44 (info_parts info_vl).choose_spec.1 (info_parts info_vl).choose_spec.2.2.1 HXW.out.v .i64 .i64 (cntL D (x.d.take A) : Int) (cntL D (x.d.take B) : Int) (by omega) (by omega) (by omega)
  have e1 : ((B : Int)).toNat - ((A : Int)).toNat = B - A := by omega
  have e2 : ((A : Int)).toNat = A := by omega
  have e3 : ((cntL D (x.d.take B) : Nat) : Int).toNat - ((cntL D (x.d.take A) : Nat) : Int).toNat = cntL D (x.d.take B) - cntL D (x.d.take A) := by omega
  have e4 : ((cntL D (x.d.take A) : Nat) : Int).toNat = cntL D (x.d.take A) := by omega
  rw [e1, e2] at hrunR hrunD
  rw [e3, e4] at hrunV
  rw [e1, e2, Nat.mul_one, Nat.mul_one, ints_part] at hsR hsD
  rw [e3, e4, vcs_part] at hsV
  have HA1 := Lib.hid (ahead_v x D A w.heap.size q5 a0 a1 a2 c0 c1 c2 _ _ _ _ _ wc.drew.drew (HXW.out.below (b0 wc).drew.drew) R4C.out.drew.drew R5C.out.drew.drew (by omega) hn HV.out)
  have HA2 := Lib.hid (ahead_v x D B w.heap.size q5 a0 a1 a2 c0 c1 c2 _ _ _ _ _ wc.drew.drew (HXW.out.below (b0 wc).drew.drew) R4C.out.drew.drew R5C.out.drew.drew hbd hn HV.out)
  have HOWN := Lib.hid (fun (W : World) (hW : Below wc.heap.size wc W) => own_v _ pr pd pv (B - A) (cntL D (x.d.take B) - cntL D (x.d.take A)) (c0 - A) (c1 - A) (c2 - cntL D (x.d.take A)) _ _ _ W (slb hsR hW) (slb hsD hW) (slb hsV hW) (ints_one _) (ints_one _) (vcs_one _) (by omega) (by omega))
  have HZ := Lib.hid (And.intro (cb HBC.out HK.out.1) (And.intro (cb HBC.out HK.out.2.1) (cb HBC.out HK.out.2.2)))
  clear e1 e2 e3 e4 hsR hsD hsV
  generalize cntL D (x.d.take A) = CA at *
  generalize cntL D (x.d.take B) = CB at *
  go_wp2_with fail
  go_upto_region 7 with fail
  refine wp_region_F (fun w' => w'.cell? ⟨w.heap.size, 0, none⟩ = some (.slice a0 x.r.length c0) ∧ w'.cell? ⟨w.heap.size, 1, none⟩ = some (.slice a1 x.d.length c1) ∧ w'.cell? ⟨w.heap.size, 2, none⟩ = some (.slice a2 x.v.length c2)) [21] (by kernel_rfl) ?g42rgS (fun hHeld => ?g42rgR)
  case g42rgS => (try dsimp only); (first | exact HZ.out | exact ⟨cb hb20 HZ.out.1, cb hb20 HZ.out.2.1, cb hb20 HZ.out.2.2⟩)
  try dsimp only at hHeld
  refine wpAnyF_take 0 (oi := ⟨some 54, .fieldAddr 46 (.tmp 4) 0, 0, "shred.go:155", #[], none⟩) (v := ?g42rv1) rfl (by kernel_rfl) (fun _ _ _ h => h) (by assumption) (by rfl) ?g42ry1 ?g42rr1
  case g42ry1 => intro w hSw; obtain ⟨s0, s1, s2⟩ := hSw; go_simp; try with_reducible rfl
  try simp only [Act.put, pA, pB, pC]
  refine wpAnyF_take 1 (oi := ⟨some 55, .load 22 (.tmp 54), 22, "shred.go:155", #[⟨0, .data⟩], none⟩) (v := ?g42rv2) rfl (by kernel_rfl) (fun _ _ _ h => h) (by assumption) (by rfl) ?g42ry2 ?g42rr2
  case g42ry2 => intro w hSw; obtain ⟨s0, s1, s2⟩ := hSw; go_simp; try with_reducible rfl
  try simp only [Act.put, pA, pB, pC]
  refine wpAnyF_take 2 (oi := ⟨some 56, .move (.tmp 11), 3, "shred.go:155", #[], none⟩) (v := ?g42rv3) rfl (by kernel_rfl) (fun _ _ _ h => h) (by assumption) (by rfl) ?g42ry3 ?g42rr3
  case g42ry3 => intro w hSw; obtain ⟨s0, s1, s2⟩ := hSw; go_simp; try with_reducible rfl
  try simp only [Act.put, pA, pB, pC]
  refine wpAnyF_take 3 (oi := ⟨some 57, .move (.tmp 12), 3, "shred.go:155", #[], none⟩) (v := ?g42rv4) rfl (by kernel_rfl) (fun _ _ _ h => h) (by assumption) (by rfl) ?g42ry4 ?g42rr4
  case g42ry4 => intro w hSw; obtain ⟨s0, s1, s2⟩ := hSw; go_simp; try with_reducible rfl
  try simp only [Act.put, pA, pB, pC]
  refine wpAnyF_take 4 (oi := ⟨some 58, .slice 22 (.tmp 55) (some (.tmp 56)) (some (.tmp 57)) none, 22, "shred.go:155", #[⟨1, .data⟩, ⟨2, .data⟩, ⟨3, .data⟩], none⟩) (v := ?g42rv5) rfl (by kernel_rfl) (fun _ _ _ h => h) (by assumption) (by rfl) ?g42ry5 ?g42rr5
  case g42ry5 => intro w hSw; obtain ⟨s0, s1, s2⟩ := hSw; go_simp; try with_reducible rfl
  try simp only [Act.put, pA, pB, pC]
  refine wpAnyF_take 5 (oi := ⟨some 59, .fieldAddr 46 (.tmp 4) 1, 0, "shred.go:155", #[], none⟩) (v := ?g42rv6) rfl (by kernel_rfl) (fun _ _ _ h => h) (by assumption) (by rfl) ?g42ry6 ?g42rr6
  case g42ry6 => intro w hSw; obtain ⟨s0, s1, s2⟩ := hSw; go_simp; try with_reducible rfl
  try simp only [Act.put, pA, pB, pC]
  refine wpAnyF_take 6 (oi := ⟨some 60, .load 22 (.tmp 59), 22, "shred.go:155", #[⟨5, .data⟩], none⟩) (v := ?g42rv7) rfl (by kernel_rfl) (fun _ _ _ h => h) (by assumption) (by rfl) ?g42ry7 ?g42rr7
  case g42ry7 => intro w hSw; obtain ⟨s0, s1, s2⟩ := hSw; go_simp; try with_reducible rfl
  try simp only [Act.put, pA, pB, pC]
  refine wpAnyF_take 7 (oi := ⟨some 61, .move (.tmp 11), 3, "shred.go:155", #[], none⟩) (v := ?g42rv8) rfl (by kernel_rfl) (fun _ _ _ h => h) (by assumption) (by rfl) ?g42ry8 ?g42rr8
  case g42ry8 => intro w hSw; obtain ⟨s0, s1, s2⟩ := hSw; go_simp; try with_reducible rfl
  try simp only [Act.put, pA, pB, pC]
  refine wpAnyF_take 8 (oi := ⟨some 62, .move (.tmp 12), 3, "shred.go:155", #[], none⟩) (v := ?g42rv9) rfl (by kernel_rfl) (fun _ _ _ h => h) (by assumption) (by rfl) ?g42ry9 ?g42rr9
  case g42ry9 => intro w hSw; obtain ⟨s0, s1, s2⟩ := hSw; go_simp; try with_reducible rfl
  try simp only [Act.put, pA, pB, pC]
  refine wpAnyF_take 9 (oi := ⟨some 63, .slice 22 (.tmp 60) (some (.tmp 61)) (some (.tmp 62)) none, 22, "shred.go:155", #[⟨6, .data⟩, ⟨7, .data⟩, ⟨8, .data⟩], none⟩) (v := ?g42rv10) rfl (by kernel_rfl) (fun _ _ _ h => h) (by assumption) (by rfl) ?g42ry10 ?g42rr10
  case g42ry10 => intro w hSw; obtain ⟨s0, s1, s2⟩ := hSw; go_simp; try with_reducible rfl
  try simp only [Act.put, pA, pB, pC]
  refine wpAnyF_take 10 (oi := ⟨some 64, .fieldAddr 46 (.tmp 4) 2, 0, "shred.go:155", #[], none⟩) (v := ?g42rv11) rfl (by kernel_rfl) (fun _ _ _ h => h) (by assumption) (by rfl) ?g42ry11 ?g42rr11
  case g42ry11 => intro w hSw; obtain ⟨s0, s1, s2⟩ := hSw; go_simp; try with_reducible rfl
  try simp only [Act.put, pA, pB, pC]
  refine wpAnyF_take 11 (oi := ⟨some 65, .load 44 (.tmp 64), 44, "shred.go:155", #[⟨10, .data⟩], none⟩) (v := ?g42rv12) rfl (by kernel_rfl) (fun _ _ _ h => h) (by assumption) (by rfl) ?g42ry12 ?g42rr12
  case g42ry12 => intro w hSw; obtain ⟨s0, s1, s2⟩ := hSw; go_simp; try with_reducible rfl
  try simp only [Act.put, pA, pB, pC]
  refine wpAnyF_take 12 (oi := ⟨some 66, .move (.tmp 13), 88, "shred.go:155", #[], none⟩) (v := ?g42rv13) rfl (by kernel_rfl) (fun _ _ _ h => h) (by assumption) (by rfl) ?g42ry13 ?g42rr13
  case g42ry13 => intro w hSw; obtain ⟨s0, s1, s2⟩ := hSw; go_simp; try with_reducible rfl
  try simp only [Act.put, pA, pB, pC]
  refine wpAnyF_take 13 (oi := ⟨some 67, .move (.tmp 11), 3, "shred.go:155", #[], none⟩) (v := ?g42rv14) rfl (by kernel_rfl) (fun _ _ _ h => h) (by assumption) (by rfl) ?g42ry14 ?g42rr14
  case g42ry14 => intro w hSw; obtain ⟨s0, s1, s2⟩ := hSw; go_simp; try with_reducible rfl
  try simp only [Act.put, pA, pB, pC]
  refine wpAnyF_take 15 (oi := ⟨some 69, .move (.tmp 13), 88, "shred.go:155", #[], none⟩) (v := ?g42rv15) rfl (by kernel_rfl) (fun _ _ _ h => h) (by assumption) (by rfl) ?g42ry15 ?g42rr15
  case g42ry15 => intro w hSw; obtain ⟨s0, s1, s2⟩ := hSw; go_simp; try with_reducible rfl
  try simp only [Act.put, pA, pB, pC]
  refine wpAnyF_take 16 (oi := ⟨some 70, .move (.tmp 12), 3, "shred.go:155", #[], none⟩) (v := ?g42rv16) rfl (by kernel_rfl) (fun _ _ _ h => h) (by assumption) (by rfl) ?g42ry16 ?g42rr16
  case g42ry16 => intro w hSw; obtain ⟨s0, s1, s2⟩ := hSw; go_simp; try with_reducible rfl
  try simp only [Act.put, pA, pB, pC]
  refine wpAnyF_ready [14] (by kernel_rfl) (by simp) ?_
  refine AllReadyF.cons 14 (o := ⟨some 68, .call { callee := .value (.tmp 66), args := #[.tmp 67], argTypes := #[3] }, 3, "shred.go:155", #[⟨12, .data⟩, ⟨13, .data⟩], none⟩) rfl (fun K hK => ?g42ro17) ?g42rm17
  case g42rm17 => exact AllReadyF.nil
  go_simp; refine HA1.out.mono ?_; rintro e w' ⟨rfl, rfl⟩; dsimp only
  refine hK.out _ _ ?g42rs17 (fun hHeld => ?g42rt17)
  case g42rs17 => (try dsimp only); (first | exact HZ.out | exact ⟨cb hb20 HZ.out.1, cb hb20 HZ.out.2.1, cb hb20 HZ.out.2.2⟩)
  try dsimp only at hHeld
  clear hK K
  try simp only [Act.put, pA, pB, pC]
  refine wpAnyF_ready [17] (by kernel_rfl) (by simp) ?_
  refine AllReadyF.cons 17 (o := ⟨some 71, .call { callee := .value (.tmp 69), args := #[.tmp 70], argTypes := #[3] }, 3, "shred.go:155", #[⟨15, .data⟩, ⟨16, .data⟩, ⟨14, .chain⟩], none⟩) rfl (fun K hK => ?g42ro18) ?g42rm18
  case g42rm18 => exact AllReadyF.nil
  go_simp; refine HA2.out.mono ?_; rintro e w' ⟨rfl, rfl⟩; dsimp only
  refine hK.out _ _ ?g42rs18 (fun hHeld => ?g42rt18)
  case g42rs18 => (try dsimp only); (first | exact HZ.out | exact ⟨cb hb20 HZ.out.1, cb hb20 HZ.out.2.1, cb hb20 HZ.out.2.2⟩)
  try dsimp only at hHeld
  clear hK K
  try simp only [Act.put, pA, pB, pC]
  refine wpAnyF_take 18 (oi := ⟨some 72, .slice 44 (.tmp 65) (some (.tmp 68)) (some (.tmp 71)) none, 44, "shred.go:155", #[⟨11, .data⟩, ⟨14, .data⟩, ⟨17, .data⟩], none⟩) (v := ?g42rv19) rfl (by kernel_rfl) (fun _ _ _ h => h) (by assumption) (by rfl) ?g42ry19 ?g42rr19
  case g42ry19 => intro w hSw; obtain ⟨s0, s1, s2⟩ := hSw; go_simp; try with_reducible rfl
  try simp only [Act.put, pA, pB, pC]
  refine wpAnyF_take 19 (oi := ⟨some 73, .build 46 #[(0, .tmp 58), (1, .tmp 63), (2, .tmp 72)], 46, "shred.go:155", #[⟨4, .data⟩, ⟨9, .data⟩, ⟨18, .data⟩], none⟩) (v := ?g42rv20) rfl (by kernel_rfl) (fun _ _ _ h => h) (by assumption) (by rfl) ?g42ry20 ?g42rr20
  case g42ry20 => intro w hSw; obtain ⟨s0, s1, s2⟩ := hSw; go_simp; try with_reducible rfl
  try simp only [Act.put, pA, pB, pC]
  refine wpAnyF_ready [20] (by kernel_rfl) (by simp) ?_
  refine AllReadyF.cons 20 (o := ⟨some 74, .call { callee := .value (.func 34), args := #[.tmp 73], argTypes := #[46] }, 46, "shred.go:155", #[⟨19, .data⟩, ⟨17, .chain⟩], none⟩) rfl (fun K hK => ?g42ro21) ?g42rm21
  case g42rm21 => exact AllReadyF.nil
  go_simp; refine (HOWN.out wc.drew.drew (b0 wc).drew.drew).mono ?_; rintro e u3 ⟨p0, d0, p1, d1, p2, d2, rfl, hb20, h3⟩; dsimp only
  refine hK.out _ _ ?g42rs21 (fun hHeld => ?g42rt21)
  case g42rs21 => (try dsimp only); (first | exact HZ.out | exact ⟨cb hb20 HZ.out.1, cb hb20 HZ.out.2.1, cb hb20 HZ.out.2.2⟩)
  try dsimp only at hHeld
  clear hK K
  try simp only [Act.put, pA, pB, pC]
  refine wpAnyF_ready [21] (by kernel_rfl) (by simp) ?_
  refine AllReadyF.last 21 (o := ⟨none, .store 46 (.tmp 8) (.tmp 74), 0, "shred.go:155", #[⟨20, .data⟩, ⟨20, .chain⟩, ⟨0, .phase⟩, ⟨1, .phase⟩, ⟨2, .phase⟩, ⟨3, .phase⟩, ⟨4, .phase⟩, ⟨5, .phase⟩, ⟨6, .phase⟩, ⟨7, .phase⟩, ⟨8, .phase⟩, ⟨9, .phase⟩, ⟨10, .phase⟩, ⟨11, .phase⟩, ⟨12, .phase⟩, ⟨13, .phase⟩, ⟨14, .phase⟩, ⟨15, .phase⟩, ⟨16, .phase⟩, ⟨17, .phase⟩, ⟨18, .phase⟩, ⟨19, .phase⟩, ⟨20, .phase⟩], none⟩) rfl (by kernel_rfl) (fun K hK => ?g42ro22) ?g42rm22
  case g42rm22 => exact AllReadyF.nil
  (have r8 := R8C.out.drew.drew.below hb20); (have y0 := r8.cell 0); (have y1 := r8.cell 1); (have y2 := r8.cell 2); (have qf := r8.frozen); (have ql := r8.lt); (simp only [List.getElem?_toArray, List.getElem?_cons_zero, List.getElem?_cons_succ] at y0 y1 y2); go_simp; clear y0 y1 y2 qf ql
  refine hK.out _ _ ?_
  clear hK K
  try simp only [Act.put, pA, pB, pC]
  refine wpAnyF_done (by kernel_rfl) ?_
  clear hHeld hrunR hrunD hrunV
  have rz := Rw.set3 r8 (u0 := .slice p0 (B - A) d0) (u1 := .slice p1 (B - A) d1) (u2 := .slice p2 (CB - CA) d2)
  have z0 := rz.cell 0; have z1 := rz.cell 1; have z2 := rz.cell 2
  have hsz20 := hb20.size
  have hq8 : q8 < wc.heap.size := R8C.out.lt
  have HBF := Lib.hid (bset3 (bt HBW.out.drew.drew hb20) h8w (u0 := .slice p0 (B - A) d0) (u1 := .slice p1 (B - A) d1) (u2 := .slice p2 (CB - CA) d2))
  have hcs := cset3 (Chg.refl (fun b => b = q8) u3) rfl (u0 := .slice p0 (B - A) d0) (u1 := .slice p1 (B - A) d1) (u2 := .slice p2 (CB - CA) d2)
  have H3 := Lib.hid h3; have HCS := Lib.hid hcs
  have hwc := HBW.out.size
  clear r8 rz hb20 h3 hcs
  go_wp2_with fail
  refine bodyPost_ret (v := .agg #[.slice p0 (B - A) d0, .slice p1 (B - A) d1, .slice p2 (CB - CA) d2]) (by simp [results, Try.results26, go_sem, z0, z1, z2]) rfl ?_
  rw [HC.out]
  have l0 := part_len x.r (a := A) (n := B - A) (by omega)
  have l1 := part_len x.d (a := A) (n := B - A) (by omega)
  have l2 := part_len x.v (a := CA) (n := CB - CA) (by omega)
  have key : ∀ (e : TypeId) (sz n c : Nat) (o : Option Addr) (xs : List Value), New14 wc.drew.drew u3 e sz o n c xs → 0 < sz → Sl (fun b => w.heap.size ≤ b ∧ b < (((u3.setCell ⟨q8, 0, none⟩ (.slice p0 (B - A) d0)).setCell ⟨q8, 1, none⟩ (.slice p1 (B - A) d1)).setCell ⟨q8, 2, none⟩ (.slice p2 (CB - CA) d2)).heap.size) (((u3.setCell ⟨q8, 0, none⟩ (.slice p0 (B - A) d0)).setCell ⟨q8, 1, none⟩ (.slice p1 (B - A) d1)).setCell ⟨q8, 2, none⟩ (.slice p2 (CB - CA) d2)) sz o n c xs := fun e sz n c o xs hnw hz => by
   have h1 : wc.drew.drew.heap.size = wc.heap.size := rfl
   exact (hnw.own.chg HCS.out (fun g hg he => by have he' : g = q8 := he; have := (hnw.new g hg).1; omega)).sl.mono (fun b hb h => ⟨by have := h.1; omega, hb⟩) hz
  refine ⟨p0, d0, p1, d1, p2, d2, by dsimp only; rw [l0, l1, l2], ⟨?_, ?_, ?_⟩, HBF.out⟩
  ·dsimp only; rw [l0]; exact key _ _ _ _ _ _ H3.out.r0 (by decide)
  ·dsimp only; rw [l1]; exact key _ _ _ _ _ _ H3.out.r1 (by decide)
  ·dsimp only; rw [l2]; exact key _ _ _ _ _ _ H3.out.r2 (by decide)
end Go.Proofs.Ytibhcibcfommeaa
