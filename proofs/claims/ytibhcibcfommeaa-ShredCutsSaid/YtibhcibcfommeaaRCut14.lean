/-
 The walk of the document's Cut of a column of cells.
-/
import Derived.Test.YtibhcibcfommeaaCut14
import Derived.Test.YtibhcibcfommeaaMkC14
set_option linter.unusedSimpArgs false
namespace Go.Proofs.Ytibhcibcfommeaa
open Go.RowKit Go.Shr
theorem celV_take {C : List Cel} {i : Nat} (h : i < C.length) : celV (C.take (i + 1)) = celV (C.take i) ++ (C[i].v).toList := by
 rw [List.take_succ_eq_append_getElem h]
 unfold celV
 rw [List.filterMap_append]
 cases hv : C[i].v <;> simp [hv]
theorem celV_cnt {C : List Cel} {D : Nat} (h : ∀ c ∈ C, (c.d = D ↔ c.v.isSome = true)) (i : Nat) : cntL (D : Int) ((clC C).d.take i) = (celV (C.take i)).length := by
 have key : ∀ (L : List Cel), (∀ c ∈ L, (c.d = D ↔ c.v.isSome = true)) → cntL (D : Int) (L.map fun c => (c.d : Int)) = (celV L).length := by
  intro L
  induction L with
  | nil => intro _; rfl
  | cons c L ih =>
   intro hh
   have h1 := hh c List.mem_cons_self
   have h2 := ih (fun x hx => hh x (List.mem_cons_of_mem _ hx))
   unfold cntL celV at h2 ⊢
   rw [List.map_cons, List.filter_cons, List.filterMap_cons]
   cases hv : c.v with
   | none =>
    have hne : ¬ ((c.d : Int) = (D : Int)) := fun e => by have := h1.1 (by omega); rw [hv] at this; cases this
    simp [hne, h2]
   | some v =>
    have he : (c.d : Int) = (D : Int) := by have := h1.2 (by rw [hv]; rfl); omega
    simp [he, h2]
 have := key (C.take i) (fun c hc => h c (List.mem_of_mem_take hc))
 rw [← this]
 simp [clC, List.map_take]
/-- What is cut out of a column of cells are cells. -/
theorem cutC_cells {C : List Cel} {D : Nat} (h : ∀ c ∈ C, (c.d = D ↔ c.v.isSome = true)) {F T : Nat} (hFT : F ≤ T) (hT : T < (stL (clC C)).length) :
  cutC (clC C) (D : Int) (F : Int) (T : Int) = clC ((C.drop (stA (clC C) (F : Int))).take (stA (clC C) (T : Int) - stA (clC C) (F : Int))) := by
 have hn := stL_len (clC C)
 have hab := stA_mono hFT hT
 unfold cutC
 rw [if_neg (by omega), celV_cnt h, celV_cnt h]
 generalize stA (clC C) (F : Int) = A at *
 generalize stA (clC C) (T : Int) = B at *
 refine Cl.ext' ?_ ?_ ?_
 ·simp [clC, List.map_take, List.map_drop]
 ·simp [clC, List.map_take, List.map_drop]
 ·have e1 : C.take B = C.take A ++ (C.drop A).take (B - A) := by
   rw [← List.take_append_drop A (C.take B), List.take_take, Nat.min_eq_left hab, List.drop_take]
  have e2 : celV (C.take B) = celV (C.take A) ++ celV ((C.drop A).take (B - A)) := by rw [e1]; simp [celV]
  have e3 : celV C = celV (C.take B) ++ celV (C.drop B) := by unfold celV; rw [← List.filterMap_append, List.take_append_drop]
  show ((celV C).drop _).take _ = celV _
  rw [e3, e2, List.append_assoc, List.drop_left, List.length_append, Nat.add_sub_cancel_left, List.take_left]
theorem cnt_val {C : List Cel} {i : Nat} (h : i < C.length) {v : Vc} (hv : C[i].v = some v) : (celV C)[(celV (C.take i)).length]? = some v := by
 have e1 := celV_take h
 rw [hv] at e1
 have e3 : celV C = celV (C.take (i + 1)) ++ celV (C.drop (i + 1)) := by unfold celV; rw [← List.filterMap_append, List.take_append_drop]
 rw [e3, e1]
 simp
def n3 (L : List Cel) : Nat → Nat := nC fun _ => L
def x3 (L : List Cel) : Nat → List Value := xC fun _ => L

theorem three3 {P : Nat → Prop} (h0 : P 0) (h1 : P 1) (h2 : P 2) (j : Nat) (hj : j < 3) : P j := by
 have : j = 0 ∨ j = 1 ∨ j = 2 := by omega
 rcases this with rfl | rfl | rfl
 ·exact h0
 ·exact h1
 ·exact h2
/-- The part that is cut out so far, in a box. -/
def OutQ (b10 B : Nat) (L : List Cel) (w : World) : Prop :=
 ∃ (aa : Nat → Option Addr) (cc : Nat → Nat), OW B w 3 tyC szC aa (n3 L) cc (x3 L) ∧ Rw w b10 #[.slice (aa 0) L.length (cc 0), .slice (aa 1) L.length (cc 1), .slice (aa 2) (celV L).length (cc 2)] 46
/-- Behind the levels. -/
def OutM (b10 B : Nat) (L : List Cel) (r d : Nat) (w : World) : Prop :=
 ∃ (aa : Nat → Option Addr) (cc : Nat → Nat) (a8 a17 : Option Addr) (c8 c17 : Nat), OW B w 3 tyC szC (upd (upd aa 0 a8) 1 a17) (upd (upd (n3 L) 0 (L.length + 1)) 1 (L.length + 1)) (upd (upd cc 0 c8) 1 c17) (upd (upd (x3 L) 0 (celR L ++ [.int .i64 (r : Int)])) 1 (celD L ++ [.int .i64 (d : Int)])) ∧
  Rw w b10 #[.slice a8 (L.length + 1) c8, .slice a17 (L.length + 1) c17, .slice (aa 2) (celV L).length (cc 2)] 46
theorem rw2 {w : World} {b : Nat} {x0 x1 x2 : Value} {t : TypeId} (h : Rw w b #[x0, x1, x2] t) (y0 y1 : Value) : Rw ((w.setCell ⟨b, 0, none⟩ y0).setCell ⟨b, 1, none⟩ y1) b #[y0, y1, x2] t := by
 have := (h.set 0 y0).set 1 y1
 simpa using this
set_option maxHeartbeats 4000000 in
set_option maxRecDepth 100000 in
theorem rcut_v (C : List Cel) (D : Nat) (f t : Int) (u0 u1 u3 : Int) (a0 a1 a2 : Option Addr) (c0 c1 c2 : Nat) (w : World) (hx : ClAt (fun b => b < w.heap.size) w (clC C) a0 c0 a1 c1 a2 c2) (hn : C.length ≤ 1000000) (hvd : ∀ c ∈ C, (c.d = D ↔ c.v.isSome = true)) :
  Calls Try.prog 27 #[.agg #[.slice a0 C.length c0, .slice a1 C.length c1, .slice a2 (celV C).length c2], .agg #[.int .i64 u0, .int .i64 u1, .int .i64 (D : Int), .int .i64 u3], .int .i64 f, .int .i64 t] w (CutQ (cutC (clC C) (D : Int) f t) w) := by
 obtain ⟨ii, hii, hz0i, hz1i, hz2i⟩ := info_parts info_i
 obtain ⟨iv, hiv, hz0v, hz1v, hz2v⟩ := info_parts info_vl
 have hxr : (clC C).r.length = C.length := by simp [clC]
 have hxd : (clC C).d.length = C.length := by simp [clC]
 have hxv : (clC C).v.length = (celV C).length := rfl
 have HX := Lib.hid hx; have HVD := Lib.hid hvd
 have hvn := celV_le C
 have HST0 := Lib.hid (fun (W : World) (hW : Below w.heap.size w W) => rstarts_v (clC C) a0 a1 a2 c0 c1 c2 W (hx.below hW) (by rw [hxr]; exact hn))
 have hst0 := HST0.out
 rw [hxr, hxd, hxv] at hst0
 have HSTS := Lib.hid hst0
 clear hx hvd hst0 HST0
 go_enter Try.func27, Try.ntmps27
 go_upto_region 1 with fail
 refine gen_wz (fun w1 hw1 => ?_)
 have hb1 : Below w.heap.size w w1 := by rw [hw1]; exact ba (ba (ba (b0 w) _) _) _
 have r4 : Rw w1 w.heap.size #[.slice a0 C.length c0, .slice a1 C.length c1, .slice a2 (celV C).length c2] 46 := by rw [hw1]; exact ((Rw.new w _ _).alloc _).alloc _
 have r5 : Rw w1 (w.heap.size + 1) #[.int .i64 u0, .int .i64 u1, .int .i64 (D : Int), .int .i64 u3] 48 := by rw [hw1]; exact (Rw.new' (by simp)).alloc _
 have r8 : Rw w1 (w.heap.size + 1 + 1) #[.slice none 0 0, .slice none 0 0, .slice none 0 0] 46 := by rw [hw1]; exact Rw.new' (by simp)
 clear hw1
 obtain ⟨q8, hq8⟩ : ∃ b, b = w.heap.size + 1 + 1 := ⟨_, rfl⟩
 obtain ⟨q5, hq5⟩ : ∃ b, b = w.heap.size + 1 := ⟨_, rfl⟩
 rw [← hq8] at r8 ⊢
 rw [← hq5] at r5 ⊢
 have h84 : q8 ≠ w.heap.size := by omega
 have h85 : q8 ≠ q5 := by omega
 have h8l := r8.lt
 have h8w : w.heap.size ≤ q8 := by omega
 have k0 : w1.cell? ⟨w.heap.size, 0, none⟩ = some (.slice a0 C.length c0) := r4.cell 0
 have k1 : w1.cell? ⟨w.heap.size, 1, none⟩ = some (.slice a1 C.length c1) := r4.cell 1
 have k2 : w1.cell? ⟨w.heap.size, 2, none⟩ = some (.slice a2 (celV C).length c2) := r4.cell 2
 have k3 : w1.cell? ⟨q5, 2, none⟩ = some (.int .i64 (D : Int)) := r5.cell 2
 have HK := Lib.hid (And.intro k0 (And.intro k1 (And.intro k2 k3)))
 have R4 := Lib.hid r4; have R5 := Lib.hid r5; have R8 := Lib.hid r8; have HB1 := Lib.hid hb1
 have HSL := startsF_len (clC C).r 0
 rw [hxr] at HSL
 have HST : Hid (ints (startsF 0 (clC C).r) ++ [Value.int .i64 (C.length : Int)] = ints (stL (clC C))) := Lib.hid (by unfold stL; rw [ints_snoc, hxr])
 have HSN := Lib.hid (stL_len (clC C))
 clear k0 k1 k2 k3 r4 r5 r8 hb1 hq8 hq5 hxr hxd hxv
 go_cut [9] from 14 to 20 (fun v wd => ∃ (as' : Option Addr) (cs : Nat), v = .slice as' ((startsF 0 (clC C).r).length + 1) cs ∧ Hid (Own w1.heap.size wd 3 1 as' ((startsF 0 (clC C).r).length + 1) cs (ints (stL (clC C)))) ∧ Hid (Below w1.heap.size w1 wd))
 case first =>
  refine wp_region_F (fun w' => w'.cell? ⟨w.heap.size, 0, none⟩ = some (.slice a0 C.length c0) ∧ w'.cell? ⟨w.heap.size, 1, none⟩ = some (.slice a1 C.length c1) ∧ w'.cell? ⟨w.heap.size, 2, none⟩ = some (.slice a2 (celV C).length c2)) [7] (by kernel_rfl) ?g43rgS (fun hHeld => ?g43rgR)
  case g43rgS => (try dsimp only); (first | exact ⟨HK.out.1, HK.out.2.1, HK.out.2.2.1⟩ | exact ⟨cb HBW HK.out.1, cb HBW HK.out.2.1, cb HBW HK.out.2.2.1⟩)
  try dsimp only at hHeld
  obtain ⟨W, hW⟩ : ∃ W, W = w1.drew := ⟨_, rfl⟩; rw [← hW] at hHeld ⊢; (have HBW : Below w1.heap.size w1 W := by rw [hW]; exact (b0 w1).drew); clear hW
  refine wpAnyF_take 0 (oi := ⟨some 14, .load 46 (.tmp 4), 46, "ref.go:138", #[], none⟩) (v := ?g43rv1) rfl (by kernel_rfl) (fun _ _ _ h => h) (by assumption) (by rfl) ?g43ry1 ?g43rr1
  case g43ry1 => intro w hSw; obtain ⟨s0, s1, s2⟩ := hSw; go_simp; try with_reducible rfl
  try simp only [Act.put, pA, pB, pC]
  refine wpAnyF_take 2 (oi := ⟨some 16, .fieldAddr 46 (.tmp 4) 0, 0, "ref.go:138", #[], none⟩) (v := ?g43rv2) rfl (by kernel_rfl) (fun _ _ _ h => h) (by assumption) (by rfl) ?g43ry2 ?g43rr2
  case g43ry2 => intro w hSw; obtain ⟨s0, s1, s2⟩ := hSw; go_simp; try with_reducible rfl
  try simp only [Act.put, pA, pB, pC]
  refine wpAnyF_take 3 (oi := ⟨some 17, .load 22 (.tmp 16), 22, "ref.go:138", #[⟨2, .data⟩], none⟩) (v := ?g43rv3) rfl (by kernel_rfl) (fun _ _ _ h => h) (by assumption) (by rfl) ?g43ry3 ?g43rr3
  case g43ry3 => intro w hSw; obtain ⟨s0, s1, s2⟩ := hSw; go_simp; try with_reducible rfl
  try simp only [Act.put, pA, pB, pC]
  refine wpAnyF_take 4 (oi := ⟨some 18, .call { callee := .builtin .len, args := #[.tmp 17], argTypes := #[22] }, 3, "ref.go:138", #[⟨3, .data⟩], none⟩) (v := ?g43rv4) rfl (by kernel_rfl) (fun _ _ _ h => h) (by assumption) (by rfl) ?g43ry4 ?g43rr4
  case g43ry4 => intro w hSw; obtain ⟨s0, s1, s2⟩ := hSw; go_simp; try with_reducible rfl
  try simp only [Act.put, pA, pB, pC]
  refine wpAnyF_ready [1, 5] (by kernel_rfl) (by simp) ?_
  refine AllReadyF.cons 1 (o := ⟨some 15, .call { callee := .value (.func 25), args := #[.tmp 14], argTypes := #[46] }, 22, "ref.go:138", #[⟨0, .data⟩], none⟩) rfl (fun K hK => ?g43ro5) ?g43rm5
  case g43ro5 =>
   go_simp; refine (HSTS.out _ (bt HB1.out HBW)).mono ?_; rintro e w2 ⟨as', cs, rfl, hos, hbk⟩; dsimp only; (replace hos := hos.mono HBW.size);  skip; (replace HBW := bt HBW hbk); clear hbk
   refine hK.out _ _ ?g43rs5 (fun hHeld => ?g43rt5)
   case g43rs5 => (try dsimp only); (first | exact ⟨HK.out.1, HK.out.2.1, HK.out.2.2.1⟩ | exact ⟨cb HBW HK.out.1, cb HBW HK.out.2.1, cb HBW HK.out.2.2.1⟩)
   try dsimp only at hHeld
   clear hK K
   try simp only [Act.put, pA, pB, pC]
   refine wpAnyF_ready [5] (by kernel_rfl) (by simp) ?_
   refine AllReadyF.cons 5 (o := ⟨some 19, .buildSlice 22 1 #[(0, .tmp 18)], 22, "ref.go:138", #[⟨4, .data⟩], none⟩) rfl (fun K hK => ?g43ro6) ?g43rm6
   case g43rm6 => exact AllReadyF.nil
   go_simp; refine gen_w (fun X hX => ?_); (have hbk := bel_nb HBW hX); (have rn := bel_nr HBW hX);  (replace hos := hos.below hbk) ; (replace HBW := bt HBW hbk); clear hX hbk
   refine hK.out _ _ ?g43rs6 (fun hHeld => ?g43rt6)
   case g43rs6 => (try dsimp only); (first | exact ⟨HK.out.1, HK.out.2.1, HK.out.2.2.1⟩ | exact ⟨cb HBW HK.out.1, cb HBW HK.out.2.1, cb HBW HK.out.2.2.1⟩)
   try dsimp only at hHeld
   clear hK K
   try simp only [Act.put, pA, pB, pC]
   refine wpAnyF_ready [6] (by kernel_rfl) (by simp) ?_
   refine AllReadyF.cons 6 (o := ⟨some 20, .call { callee := .builtin .append, args := #[.tmp 15, .tmp 19], argTypes := #[22, 22] }, 22, "ref.go:138", #[⟨1, .data⟩, ⟨5, .data⟩, ⟨1, .chain⟩], none⟩) rfl (fun K hK => ?g43ro7) ?g43rm7
   case g43rm7 => exact AllReadyF.nil
   (refine step_append (B := w1.heap.size) rfl _ _ _ _ rfl ii (.int .i64 0) 8 Try.underlying22 hii hz0i hz1i hz2i rfl rfl hos _ rfl 1 _ (src_rw (P := Try.prog) (tx := 22) Try.underlying22 rn 1 1 rfl (by simp [Value.oneCell'])) (by simp only [maxLen]; omega) (by omega) HBW.size ?_; intro a6 cap6 W6 ho6 hc6 hn6); (replace HBW := Chg.bt HBW hc6 (fun i hi h => by have := h.2.1; omega)); clear hc6 hn6 rn hos
   refine hK.out _ _ ?g43rs7 (fun hHeld => ?g43rt7)
   case g43rs7 => (try dsimp only); (first | exact ⟨HK.out.1, HK.out.2.1, HK.out.2.2.1⟩ | exact ⟨cb HBW HK.out.1, cb HBW HK.out.2.1, cb HBW HK.out.2.2.1⟩)
   try dsimp only at hHeld
   clear hK K
   try simp only [Act.put, pA, pB, pC]
   refine wpAnyF_ready [7] (by kernel_rfl) (by simp) ?_
   refine AllReadyF.last 7 (o := ⟨some 9, .assign (.tmp 20), 22, "ref.go:138", #[⟨6, .data⟩, ⟨6, .chain⟩, ⟨0, .phase⟩, ⟨1, .phase⟩, ⟨2, .phase⟩, ⟨3, .phase⟩, ⟨4, .phase⟩, ⟨5, .phase⟩, ⟨6, .phase⟩], none⟩) rfl (by kernel_rfl) (fun K hK => ?g43ro8) ?g43rm8
   case g43rm8 => exact AllReadyF.nil
   go_simp
   refine hK.out _ _ ?_
   clear hK K
   try simp only [Act.put, pA, pB, pC]
   refine wpAnyF_done (by kernel_rfl) ?_
   (try simp only [List.toList_toArray] at ho6)
   rw [HST.out] at ho6
   have HO6 := Lib.hid ho6; have HBF := Lib.hid HBW
   clear ho6 HBW
   go_wp2_with fail
   go_meet
   case rel => exact ⟨a6, cap6, rfl, HO6, HBF⟩
  case g43rm5 =>
  refine AllReadyF.cons 5 (o := ⟨some 19, .buildSlice 22 1 #[(0, .tmp 18)], 22, "ref.go:138", #[⟨4, .data⟩], none⟩) rfl (fun K hK => ?g43ro9) ?g43rm9
  case g43ro9 =>
   go_simp; refine gen_w (fun X hX => ?_); (have hbk := bel_nb HBW hX); (have rn := bel_nr HBW hX);  skip; (replace HBW := bt HBW hbk); clear hX hbk
   refine hK.out _ _ ?g43rs9 (fun hHeld => ?g43rt9)
   case g43rs9 => (try dsimp only); (first | exact ⟨HK.out.1, HK.out.2.1, HK.out.2.2.1⟩ | exact ⟨cb HBW HK.out.1, cb HBW HK.out.2.1, cb HBW HK.out.2.2.1⟩)
   try dsimp only at hHeld
   clear hK K
   try simp only [Act.put, pA, pB, pC]
   refine wpAnyF_ready [1] (by kernel_rfl) (by simp) ?_
   refine AllReadyF.cons 1 (o := ⟨some 15, .call { callee := .value (.func 25), args := #[.tmp 14], argTypes := #[46] }, 22, "ref.go:138", #[⟨0, .data⟩], none⟩) rfl (fun K hK => ?g43ro10) ?g43rm10
   case g43rm10 => exact AllReadyF.nil
   go_simp; refine (HSTS.out _ (bt HB1.out HBW)).mono ?_; rintro e w2 ⟨as', cs, rfl, hos, hbk⟩; dsimp only; (replace hos := hos.mono HBW.size);  (replace rn := rn.below hbk) ; (replace HBW := bt HBW hbk); clear hbk
   refine hK.out _ _ ?g43rs10 (fun hHeld => ?g43rt10)
   case g43rs10 => (try dsimp only); (first | exact ⟨HK.out.1, HK.out.2.1, HK.out.2.2.1⟩ | exact ⟨cb HBW HK.out.1, cb HBW HK.out.2.1, cb HBW HK.out.2.2.1⟩)
   try dsimp only at hHeld
   clear hK K
   try simp only [Act.put, pA, pB, pC]
   refine wpAnyF_ready [6] (by kernel_rfl) (by simp) ?_
   refine AllReadyF.cons 6 (o := ⟨some 20, .call { callee := .builtin .append, args := #[.tmp 15, .tmp 19], argTypes := #[22, 22] }, 22, "ref.go:138", #[⟨1, .data⟩, ⟨5, .data⟩, ⟨1, .chain⟩], none⟩) rfl (fun K hK => ?g43ro11) ?g43rm11
   case g43rm11 => exact AllReadyF.nil
   (refine step_append (B := w1.heap.size) rfl _ _ _ _ rfl ii (.int .i64 0) 8 Try.underlying22 hii hz0i hz1i hz2i rfl rfl hos _ rfl 1 _ (src_rw (P := Try.prog) (tx := 22) Try.underlying22 rn 1 1 rfl (by simp [Value.oneCell'])) (by simp only [maxLen]; omega) (by omega) HBW.size ?_; intro a6 cap6 W6 ho6 hc6 hn6); (replace HBW := Chg.bt HBW hc6 (fun i hi h => by have := h.2.1; omega)); clear hc6 hn6 rn hos
   refine hK.out _ _ ?g43rs11 (fun hHeld => ?g43rt11)
   case g43rs11 => (try dsimp only); (first | exact ⟨HK.out.1, HK.out.2.1, HK.out.2.2.1⟩ | exact ⟨cb HBW HK.out.1, cb HBW HK.out.2.1, cb HBW HK.out.2.2.1⟩)
   try dsimp only at hHeld
   clear hK K
   try simp only [Act.put, pA, pB, pC]
   refine wpAnyF_ready [7] (by kernel_rfl) (by simp) ?_
   refine AllReadyF.last 7 (o := ⟨some 9, .assign (.tmp 20), 22, "ref.go:138", #[⟨6, .data⟩, ⟨6, .chain⟩, ⟨0, .phase⟩, ⟨1, .phase⟩, ⟨2, .phase⟩, ⟨3, .phase⟩, ⟨4, .phase⟩, ⟨5, .phase⟩, ⟨6, .phase⟩], none⟩) rfl (by kernel_rfl) (fun K hK => ?g43ro12) ?g43rm12
   case g43rm12 => exact AllReadyF.nil
   go_simp
   refine hK.out _ _ ?_
   clear hK K
   try simp only [Act.put, pA, pB, pC]
   refine wpAnyF_done (by kernel_rfl) ?_
   (try simp only [List.toList_toArray] at ho6)
   rw [HST.out] at ho6
   have HO6 := Lib.hid ho6; have HBF := Lib.hid HBW
   clear ho6 HBW
   go_wp2_with fail
   go_meet
   case rel => exact ⟨a6, cap6, rfl, HO6, HBF⟩
  case g43rm9 =>
  exact AllReadyF.nil
 case rest =>
  obtain ⟨as', cs, rfl, HOS, HBC⟩ := hcut
  have R8C := Lib.hid (R8.out.below HBC.out)
  have rz := Rw.set3 R8C.out (u0 := .slice none 0 0) (u1 := .slice none 0 0) (u2 := .slice none 0 0)
  have y0 : wc.cell? ⟨q8, 0, none⟩ = some (.slice none 0 0) := R8C.out.cell 0
  have y1 : wc.cell? ⟨q8, 1, none⟩ = some (.slice none 0 0) := R8C.out.cell 1
  have y2 : wc.cell? ⟨q8, 2, none⟩ = some (.slice none 0 0) := R8C.out.cell 2
  have qf := R8C.out.frozen
  have ql := R8C.out.lt
  have z0 := rz.cell 0; have z1 := rz.cell 1; have z2 := rz.cell 2
  simp only [List.getElem?_toArray, List.getElem?_cons_zero, List.getElem?_cons_succ] at z0 z1 z2
  have HBW := Lib.hid (bt HB1.out HBC.out)
  have HBAD : Hid ((f < 0 ∨ ((startsF 0 (clC C).r).length : Int) < t ∨ t < f) → CutQ (cutC (clC C) (D : Int) f t) w (.returned (.agg #[.slice none 0 0, .slice none 0 0, .slice none 0 0])) (((wc.setCell ⟨q8, 0, none⟩ (.slice none 0 0)).setCell ⟨q8, 1, none⟩ (.slice none 0 0)).setCell ⟨q8, 2, none⟩ (.slice none 0 0))) := Lib.hid (fun h => by
   unfold cutC
   rw [if_pos h]
   exact ⟨none, 0, none, 0, none, 0, rfl, ⟨Sl.nil _ _ _ _, Sl.nil _ _ _ _, Sl.nil _ _ _ _⟩, bset3 HBW.out h8w⟩)
  clear rz
  by_cases hf0 : f < 0
  ·go_wp2_with fail
   refine bodyPost_ret (v := .agg #[.slice none 0 0, .slice none 0 0, .slice none 0 0]) (by simp [results, Try.results27, go_sem, z0, z1, z2]) rfl ?_
   exact HBAD.out (.inl hf0)
  by_cases htf : t < f
  ·go_wp2_with fail
   refine bodyPost_ret (v := .agg #[.slice none 0 0, .slice none 0 0, .slice none 0 0]) (by simp [results, Try.results27, go_sem, z0, z1, z2]) rfl ?_
   exact HBAD.out (.inr (.inr htf))
  by_cases hft : ((startsF 0 (clC C).r).length : Int) < t
  ·have hft' : ((startsF 0 (clC C).r).length : Int) + 1 ≤ t := by omega
   go_wp2_with fail
   refine bodyPost_ret (v := .agg #[.slice none 0 0, .slice none 0 0, .slice none 0 0]) (by simp [results, Try.results27, go_sem, z0, z1, z2]) rfl ?_
   exact HBAD.out (.inr (.inl hft))
  have hft' : ¬ (((startsF 0 (clC C).r).length : Int) + 1 ≤ t) := by omega
  clear HBAD z0 z1 z2 y0 y1 y2 qf ql
  obtain ⟨F, rfl⟩ : ∃ F : Nat, f = (F : Int) := ⟨f.toNat, by omega⟩
  obtain ⟨T, rfl⟩ : ∃ T : Nat, t = (T : Int) := ⟨t.toNat, by omega⟩
  have hFT : F ≤ T := by omega
  have hTn : T < (stL (clC C)).length := by rw [HSN.out]; omega
  have hab := stA_mono hFT hTn
  have hbl := stA_le (clC C) T hTn
  have hxr : (clC C).r.length = C.length := by simp [clC]
  rw [hxr] at hbl
  have vF : (ints (stL (clC C)))[F]? = some (.int .i64 (stA (clC C) (F : Int) : Int)) := by rw [ints_get _ _ (by omega), stA_get]
  have vT : (ints (stL (clC C)))[T]? = some (.int .i64 (stA (clC C) (T : Int) : Int)) := by rw [ints_get _ _ (by omega), stA_get]
  have HC := Lib.hid (cutC_cells HVD.out hFT hTn)
  generalize stA (clC C) (F : Int) = A at *
  generalize stA (clC C) (T : Int) = B at *
  obtain ⟨gs, has, _, _, hgc, _⟩ := HOS.out.pos (by omega)
  have s0 := hgc _ _ vF; have s1 := hgc _ _ vT
  subst has
  have hsF : (F : Int) < ((startsF 0 (clC C).r).length : Int) + 1 := by omega
  have hsT : (T : Int) < ((startsF 0 (clC C).r).length : Int) + 1 := by omega
  have HXW := Lib.hid (HX.out.below HBW.out)
  have HSG := Lib.hid (And.intro s0 s1)
  clear vF vT hgc s0 s1 hxr
  go_upto_region 5 with fail
  refine gen_wz (fun w2 hw2 => ?_)
  have hb2 : Below wc.heap.size wc w2 := by rw [hw2]; first | exact ba (b0 wc) _ | exact bset3 (ba (b0 wc) _) (Nat.le_refl _)
  have r10 : Rw w2 wc.heap.size #[.slice none 0 0, .slice none 0 0, .slice none 0 0] 46 := by rw [hw2]; first | exact Rw.new wc _ _ | exact Rw.set3 (Rw.new wc _ _)
  clear hw2
  obtain ⟨q10, hq10⟩ : ∃ b, b = wc.heap.size := ⟨_, rfl⟩
  rw [← hq10] at r10 ⊢
  have h10l := r10.lt
  have h10w : w.heap.size ≤ q10 := by have := HBW.out.size; omega
  have h810 : q8 < q10 := by have := R8C.out.lt; omega
  have hq5 : q5 < q10 := by have := (R5.out.below HBC.out).lt; omega
  have hwq : w.heap.size ≠ q10 := by have := (R4.out.below HBC.out).lt; omega
  have HR10 := Lib.hid r10; have HB12 := Lib.hid (bt HBC.out hb2); have HSG2 := Lib.hid (And.intro (cb hb2 HSG.out.1) (cb hb2 HSG.out.2))
  have HBW2 := Lib.hid (bt HBW.out hb2)
  have hgs : gs < w2.heap.size := World.block_lt_of_cell? w2 _ HSG2.out.1
  have hgsne : gs ≠ q10 := fun he => by have h1 := World.block_lt_of_cell? wc _ HSG.out.1; have h2 : gs < wc.heap.size := h1; omega
  clear hb2 r10 hq10
  go_wp2_with fail
  clear hsF hsT hft hft' hf0 htf
  have HNI : Hid (OutQ q10 w2.heap.size [] w2) := Lib.hid ⟨fun _ => none, fun _ => 0, (OW.nil _ _ _ _ _).congr (fun _ _ => rfl) (three3 rfl rfl rfl) (fun _ _ => rfl) (three3 rfl rfl rfl), HR10.out⟩
  have HK2 := Lib.hid (And.intro (cb HB12.out HK.out.1) (And.intro (cb HB12.out HK.out.2.1) (And.intro (cb HB12.out HK.out.2.2.1) (cb HB12.out HK.out.2.2.2))))
  have HX2 := Lib.hid (HX.out.go (S := fun k => w.heap.size ≤ k) (ok' := fun b => b < w.heap.size) (Chg.ofBelow HBW2.out) (fun k _ h => ⟨by omega, h⟩))
  have hxr2 : (clC C).r.length = C.length := by simp [clC]
  have hxd2 : (clC C).d.length = C.length := by simp [clC]
  have hw2w := HBW2.out.size
  go_loopw [11, 12] (fun vv iv wr => ∃ i : Nat, vv = .int .i64 ((celV (C.take i)).length : Int) ∧ iv = .int .i64 (i : Int) ∧ i ≤ B ∧ Hid (OutQ q10 w2.heap.size ((C.drop A).take (i - A)) wr) ∧ Hid (Chg (fun b => b = q10) w2 wr)) (fun _ iv _ => B - (intOf iv).toNat)
  case atStart => exact ⟨0, by simp [celV], rfl, Nat.zero_le _, by rw [Nat.zero_sub, List.take_zero]; exact HNI, Lib.hid (Chg.refl _ _)⟩
  case round =>
   obtain ⟨i, rfl, rfl, hi, HO, HCH⟩ := hrel
   have s0 := HCH.out.keep HSG2.out.1 (fun he => hgsne he); have s1 := HCH.out.keep HSG2.out.2 (fun he => hgsne he)
   have hsF : (F : Int) < ((startsF 0 (clC C).r).length : Int) + 1 := by have := HSN.out; omega
   have hsT : (T : Int) < ((startsF 0 (clC C).r).length : Int) + 1 := by have := HSN.out; omega
   by_cases hiB : i < B
   ·have hiC : i < C.length := by omega
    have hcv := celV_le (C.take i)
    rw [List.length_take] at hcv
    have hcv2 : (celV (C.take i)).length ≤ 1000000 := by omega
    have HCT := Lib.hid (celV_take hiC)
    have HLT : Hid (A ≤ i → (C.drop A).take (i + 1 - A) = (C.drop A).take (i - A) ++ [C[i]]) := Lib.hid (fun hA => by
     rw [show i + 1 - A = (i - A) + 1 by omega, List.take_succ_eq_append_getElem (by rw [List.length_drop]; omega)]
     simp [show A + (i - A) = i by omega])
    have HLN : Hid (¬ A ≤ i → (C.drop A).take (i + 1 - A) = (C.drop A).take (i - A)) := Lib.hid (fun hA => by
     rw [show i + 1 - A = 0 by omega, show i - A = 0 by omega])
    have HDV := Lib.hid (HVD.out _ (List.getElem_mem hiC))
    have HCV : Hid (∀ v, C[i].v = some v → (celV C)[(celV (C.take i)).length]? = some v) := Lib.hid (fun v hv => cnt_val hiC hv)
    have hLl : ((C.drop A).take (i - A)).length ≤ 1000000 := by rw [List.length_take, List.length_drop]; omega
    have xr := HX2.out.r; have xd := HX2.out.d
    obtain ⟨pr, pro, hpr, hprl, hprc⟩ := xr.pos (by rw [hxr2]; omega)
    obtain ⟨pd, pdo, hpd, hpdl, hpdc⟩ := xd.pos (by rw [hxd2]; omega)
    subst hpr hpd
    have v0 := hprc i (.int .i64 (C[i].r : Int)) (by rw [clC_r]; simp [celR, hiC])
    have v1 := hpdc i (.int .i64 (C[i].d : Int)) (by rw [clC_d]; simp [celD, hiC])
    have hprw : pr ≠ q10 := by have h : pr < w.heap.size := hprl; omega
    have hpdw : pd ≠ q10 := by have h : pd < w.heap.size := hpdl; omega
    generalize C[i] = ce at *
    obtain ⟨cr, cd, cv⟩ := ce
    dsimp only at v0 v1 HDV HCV HCT
    generalize hnv : (celV (C.take i)).length = nv at *
    have HNV := Lib.hid hnv
    clear hprc hpdc xr xd hnv
    have hx0 := HCH.out.keep v0 (fun he => hprw he); have hx1 := HCH.out.keep v1 (fun he => hpdw he)
    have hk0 := HCH.out.keep HK2.out.1 (fun he => hwq he); have hk1 := HCH.out.keep HK2.out.2.1 (fun he => hwq he); have hk2 := HCH.out.keep HK2.out.2.2.1 (fun he => hwq he); have hk3 := HCH.out.keep HK2.out.2.2.2 (fun he => by have he' : q5 = q10 := he; omega)
    have HV2 := Lib.hid (And.intro v0 v1)
    have HG := Lib.hid (And.intro hk1 (And.intro hk3 hx1))
    have HS01 := Lib.hid (And.intro s0 s1)
    clear v0 v1
    obtain ⟨hs, hhs⟩ : ∃ b : Bool, b = cv.isSome := ⟨_, rfl⟩
    have hdb : ((cd : Int) == (D : Int)) = hs := by
     rw [hhs]
     cases hcv' : cv with
     | none => exact beq_eq_false_iff_ne.2 (fun e => by have := HDV.out.1 (by omega); rw [hcv'] at this; cases this)
     | some v => exact beq_iff_eq.2 (by have := HDV.out.2 (by rw [hcv']; rfl); omega)
    have HHS := Lib.hid hhs
    clear hhs
    go_upto_region 9 with fail
    clear s0 s1 hx0 hx1 hk0 hk1 hk2 hk3
    refine wp_region_F (fun w' => w'.cell? ⟨w.heap.size, 1, none⟩ = some (.slice (some ⟨pd, pdo, none⟩) C.length c1) ∧ w'.cell? ⟨q5, 2, none⟩ = some (.int .i64 (D : Int)) ∧ w'.cell? ⟨pd, pdo + i, none⟩ = some (.int .i64 (cd : Int))) [] (by kernel_rfl) ?g44rgS (fun hHeld => ?g44rgR)
    case g44rgS => (try dsimp only); (exact HG.out)
    try dsimp only at hHeld
    refine wpAnyF_take 0 (oi := ⟨some 44, .fieldAddr 46 (.tmp 4) 1, 0, "ref.go:145", #[], none⟩) (v := ?g44rv1) rfl (by kernel_rfl) (fun _ _ _ h => h) (by assumption) (by rfl) ?g44ry1 ?g44rr1
    case g44ry1 => intro w hSw; obtain ⟨s0, s1, s2⟩ := hSw; go_simp; try with_reducible rfl
    try simp only [Act.put, pA, pB, pC]
    refine wpAnyF_take 1 (oi := ⟨some 45, .load 22 (.tmp 44), 22, "ref.go:145", #[⟨0, .data⟩], none⟩) (v := ?g44rv2) rfl (by kernel_rfl) (fun _ _ _ h => h) (by assumption) (by rfl) ?g44ry2 ?g44rr2
    case g44ry2 => intro w hSw; obtain ⟨s0, s1, s2⟩ := hSw; go_simp; try with_reducible rfl
    try simp only [Act.put, pA, pB, pC]
    refine wpAnyF_take 2 (oi := ⟨some 46, .move (.tmp 12), 3, "ref.go:145", #[], none⟩) (v := ?g44rv3) rfl (by kernel_rfl) (fun _ _ _ h => h) (by assumption) (by rfl) ?g44ry3 ?g44rr3
    case g44ry3 => intro w hSw; obtain ⟨s0, s1, s2⟩ := hSw; go_simp; try with_reducible rfl
    try simp only [Act.put, pA, pB, pC]
    refine wpAnyF_take 3 (oi := ⟨some 47, .indexAddr 22 (.tmp 45) (.tmp 46), 0, "ref.go:145", #[⟨1, .data⟩, ⟨2, .data⟩], none⟩) (v := ?g44rv4) rfl (by kernel_rfl) (fun _ _ _ h => h) (by assumption) (by rfl) ?g44ry4 ?g44rr4
    case g44ry4 => intro w hSw; obtain ⟨s0, s1, s2⟩ := hSw; go_simp; try with_reducible rfl
    try simp only [Act.put, pA, pB, pC]
    refine wpAnyF_take 4 (oi := ⟨some 48, .load 3 (.tmp 47), 3, "ref.go:145", #[⟨3, .data⟩], none⟩) (v := ?g44rv5) rfl (by kernel_rfl) (fun _ _ _ h => h) (by assumption) (by rfl) ?g44ry5 ?g44rr5
    case g44ry5 => intro w hSw; obtain ⟨s0, s1, s2⟩ := hSw; go_simp; try with_reducible rfl
    try simp only [Act.put, pA, pB, pC]
    refine wpAnyF_take 5 (oi := ⟨some 49, .fieldAddr 48 (.tmp 5) 2, 0, "ref.go:145", #[], none⟩) (v := ?g44rv6) rfl (by kernel_rfl) (fun _ _ _ h => h) (by assumption) (by rfl) ?g44ry6 ?g44rr6
    case g44ry6 => intro w hSw; obtain ⟨s0, s1, s2⟩ := hSw; go_simp; try with_reducible rfl
    try simp only [Act.put, pA, pB, pC]
    refine wpAnyF_take 6 (oi := ⟨some 50, .load 3 (.tmp 49), 3, "ref.go:145", #[⟨5, .data⟩], none⟩) (v := ?g44rv7) rfl (by kernel_rfl) (fun _ _ _ h => h) (by assumption) (by rfl) ?g44ry7 ?g44rr7
    case g44ry7 => intro w hSw; obtain ⟨s0, s1, s2⟩ := hSw; go_simp; try with_reducible rfl
    try simp only [Act.put, pA, pB, pC]
    refine wpAnyF_take 7 (oi := ⟨some 51, .binOp .eql 3 (.tmp 48) (.tmp 50) 3, 4, "ref.go:145", #[⟨4, .data⟩, ⟨6, .data⟩], none⟩) (v := ?g44rv8) rfl (by kernel_rfl) (fun _ _ _ h => h) (by assumption) (by rfl) ?g44ry8 ?g44rr8
    case g44ry8 => intro w hSw; obtain ⟨s0, s1, s2⟩ := hSw; go_simp; try with_reducible rfl
    try simp only [Act.put, pA, pB, pC]
    refine wpAnyF_take 8 (oi := ⟨some 13, .assign (.tmp 51), 4, "ref.go:145", #[⟨7, .data⟩, ⟨0, .phase⟩, ⟨1, .phase⟩, ⟨2, .phase⟩, ⟨3, .phase⟩, ⟨4, .phase⟩, ⟨5, .phase⟩, ⟨6, .phase⟩, ⟨7, .phase⟩], none⟩) (v := ?g44rv9) rfl (by kernel_rfl) (fun _ _ _ h => h) (by assumption) (by rfl) ?g44ry9 ?g44rr9
    case g44ry9 => intro w hSw; obtain ⟨s0, s1, s2⟩ := hSw; go_simp; try with_reducible rfl
    try simp only [Act.put, pA, pB, pC]
    refine wpAnyF_done (by kernel_rfl) ?_
    clear hHeld hdb
    have s0 := (HCH.out.drew).keep HSG2.out.1 (fun he => hgsne he)
    have HCD := Lib.hid HCH.out.drew
    have HOD : Hid (OutQ q10 w2.heap.size ((C.drop A).take (i - A)) wr.drew) := Lib.hid (by
     obtain ⟨aa, cc, h1, h2⟩ := HO.out
     exact ⟨aa, cc, h1.below (b0 wr).drew, h2.drew⟩)
    go_upto_if 57 with fail
    go_cut [13] from 52 to 88 (fun v wd => v = .bool hs ∧ Hid (OutQ q10 w2.heap.size ((C.drop A).take (i + 1 - A)) wd) ∧ Hid (Chg (fun b => b = q10) w2 wd))
    case first =>
     by_cases hA : A ≤ i
     ·have hAi : (A : Int) ≤ (i : Int) := by omega
      have HLX := Lib.hid (HLT.out hA)
      generalize (C.drop A).take (i - A) = L at *
      have HXS := Lib.hid (And.intro HK2.out.1 (And.intro HK2.out.2.1 (And.intro HV2.out.1 HV2.out.2)))
      have HNX : Hid (∀ b, b ≠ q10 → ¬ (fun b => b = q10) b) := Lib.hid (fun b hb he => hb he)
      obtain ⟨aa, cc, how0, row0⟩ := HOD.out
      have HOW := Lib.hid how0; have HROW := Lib.hid row0
      have z := And.intro (row0.cell 0) (row0.cell 1)
      have HZ10 := Lib.hid (show wr.drew.cell? ⟨q10, 0, none⟩ = some (.slice (aa 0) L.length (cc 0)) ∧ wr.drew.cell? ⟨q10, 1, none⟩ = some (.slice (aa 1) L.length (cc 1)) from z)
      have hB0 : w2.heap.size ≤ wr.drew.heap.size := HCD.out.size
      clear how0 row0 z
      go_upto_region 11 with fail
      go_cut [13] from 57 to 77 (fun v wd => v = .bool hs ∧ Hid (OutM q10 w2.heap.size L cr cd wd) ∧ Hid (Chg (fun b => b = q10) w2 wd))
      case first =>
       refine wp_region_F (fun w' => (w'.cell? ⟨q10, 0, none⟩ = some (.slice (aa 0) L.length (cc 0)) ∧ w'.cell? ⟨q10, 1, none⟩ = some (.slice (aa 1) L.length (cc 1))) ∧ w'.cell? ⟨w.heap.size, 0, none⟩ = some (.slice (some ⟨pr, pro, none⟩) C.length c0) ∧ w'.cell? ⟨w.heap.size, 1, none⟩ = some (.slice (some ⟨pd, pdo, none⟩) C.length c1) ∧ w'.cell? ⟨pr, pro + i, none⟩ = some (.int .i64 (cr : Int)) ∧ w'.cell? ⟨pd, pdo + i, none⟩ = some (.int .i64 (cd : Int))) [19, 20, 21] (by kernel_rfl) ?g45rgS (fun hHeld => ?g45rgR)
       case g45rgS => (try dsimp only); (first | exact ⟨HZ10.out, HCD.out.drew.keep HXS.out.1 (HNX.out _ hwq), HCD.out.drew.keep HXS.out.2.1 (HNX.out _ hwq), HCD.out.drew.keep HXS.out.2.2.1 (HNX.out _ hprw), HCD.out.drew.keep HXS.out.2.2.2 (HNX.out _ hpdw)⟩ | exact ⟨⟨row.cell 0, row.cell 1⟩, hch.keep HXS.out.1 (HNX.out _ hwq), hch.keep HXS.out.2.1 (HNX.out _ hwq), hch.keep HXS.out.2.2.1 (HNX.out _ hprw), hch.keep HXS.out.2.2.2 (HNX.out _ hpdw)⟩)
       try dsimp only at hHeld
       obtain ⟨W, hW⟩ : ∃ W, W = wr.drew.drew := ⟨_, rfl⟩; rw [← hW] at hHeld ⊢; (have row := Rw.ren hW HROW.out.drew); (have how : OW w2.heap.size W 3 tyC szC aa (n3 L) cc (x3 L) := by rw [hW]; exact HOW.out.below (b0 wr.drew).drew); (have hch : Chg (fun b => b = q10) w2 W := by rw [hW]; exact HCD.out.drew); (have hBW : w2.heap.size ≤ W.heap.size := hch.size); clear hW
       refine wpAnyF_take 0 (oi := ⟨some 58, .fieldAddr 46 (.tmp 10) 0, 0, "ref.go:147", #[], none⟩) (v := ?g45rv1) rfl (by kernel_rfl) (fun _ _ _ h => h) (by assumption) (by rfl) ?g45ry1 ?g45rr1
       case g45ry1 => intro w hSw; obtain ⟨⟨s0, s1⟩, s2, s3, s4, s5⟩ := hSw; go_simp; try with_reducible rfl
       try simp only [Act.put, pA, pB, pC]
       refine wpAnyF_take 1 (oi := ⟨some 59, .load 22 (.tmp 58), 22, "ref.go:147", #[⟨0, .data⟩], none⟩) (v := ?g45rv2) rfl (by kernel_rfl) (fun _ _ _ h => h) (by assumption) (by rfl) ?g45ry2 ?g45rr2
       case g45ry2 => intro w hSw; obtain ⟨⟨s0, s1⟩, s2, s3, s4, s5⟩ := hSw; go_simp; try with_reducible rfl
       try simp only [Act.put, pA, pB, pC]
       refine wpAnyF_take 2 (oi := ⟨some 60, .fieldAddr 46 (.tmp 4) 0, 0, "ref.go:147", #[], none⟩) (v := ?g45rv3) rfl (by kernel_rfl) (fun _ _ _ h => h) (by assumption) (by rfl) ?g45ry3 ?g45rr3
       case g45ry3 => intro w hSw; obtain ⟨⟨s0, s1⟩, s2, s3, s4, s5⟩ := hSw; go_simp; try with_reducible rfl
       try simp only [Act.put, pA, pB, pC]
       refine wpAnyF_take 3 (oi := ⟨some 61, .load 22 (.tmp 60), 22, "ref.go:147", #[⟨2, .data⟩], none⟩) (v := ?g45rv4) rfl (by kernel_rfl) (fun _ _ _ h => h) (by assumption) (by rfl) ?g45ry4 ?g45rr4
       case g45ry4 => intro w hSw; obtain ⟨⟨s0, s1⟩, s2, s3, s4, s5⟩ := hSw; go_simp; try with_reducible rfl
       try simp only [Act.put, pA, pB, pC]
       refine wpAnyF_take 4 (oi := ⟨some 62, .move (.tmp 12), 3, "ref.go:147", #[], none⟩) (v := ?g45rv5) rfl (by kernel_rfl) (fun _ _ _ h => h) (by assumption) (by rfl) ?g45ry5 ?g45rr5
       case g45ry5 => intro w hSw; obtain ⟨⟨s0, s1⟩, s2, s3, s4, s5⟩ := hSw; go_simp; try with_reducible rfl
       try simp only [Act.put, pA, pB, pC]
       refine wpAnyF_take 5 (oi := ⟨some 63, .indexAddr 22 (.tmp 61) (.tmp 62), 0, "ref.go:147", #[⟨3, .data⟩, ⟨4, .data⟩], none⟩) (v := ?g45rv6) rfl (by kernel_rfl) (fun _ _ _ h => h) (by assumption) (by rfl) ?g45ry6 ?g45rr6
       case g45ry6 => intro w hSw; obtain ⟨⟨s0, s1⟩, s2, s3, s4, s5⟩ := hSw; go_simp; try with_reducible rfl
       try simp only [Act.put, pA, pB, pC]
       refine wpAnyF_take 6 (oi := ⟨some 64, .load 3 (.tmp 63), 3, "ref.go:147", #[⟨5, .data⟩], none⟩) (v := ?g45rv7) rfl (by kernel_rfl) (fun _ _ _ h => h) (by assumption) (by rfl) ?g45ry7 ?g45rr7
       case g45ry7 => intro w hSw; obtain ⟨⟨s0, s1⟩, s2, s3, s4, s5⟩ := hSw; go_simp; try with_reducible rfl
       try simp only [Act.put, pA, pB, pC]
       refine wpAnyF_take 9 (oi := ⟨some 67, .fieldAddr 46 (.tmp 10) 1, 0, "ref.go:147", #[], none⟩) (v := ?g45rv8) rfl (by kernel_rfl) (fun _ _ _ h => h) (by assumption) (by rfl) ?g45ry8 ?g45rr8
       case g45ry8 => intro w hSw; obtain ⟨⟨s0, s1⟩, s2, s3, s4, s5⟩ := hSw; go_simp; try with_reducible rfl
       try simp only [Act.put, pA, pB, pC]
       refine wpAnyF_take 10 (oi := ⟨some 68, .load 22 (.tmp 67), 22, "ref.go:147", #[⟨9, .data⟩], none⟩) (v := ?g45rv9) rfl (by kernel_rfl) (fun _ _ _ h => h) (by assumption) (by rfl) ?g45ry9 ?g45rr9
       case g45ry9 => intro w hSw; obtain ⟨⟨s0, s1⟩, s2, s3, s4, s5⟩ := hSw; go_simp; try with_reducible rfl
       try simp only [Act.put, pA, pB, pC]
       refine wpAnyF_take 11 (oi := ⟨some 69, .fieldAddr 46 (.tmp 4) 1, 0, "ref.go:147", #[], none⟩) (v := ?g45rv10) rfl (by kernel_rfl) (fun _ _ _ h => h) (by assumption) (by rfl) ?g45ry10 ?g45rr10
       case g45ry10 => intro w hSw; obtain ⟨⟨s0, s1⟩, s2, s3, s4, s5⟩ := hSw; go_simp; try with_reducible rfl
       try simp only [Act.put, pA, pB, pC]
       refine wpAnyF_take 12 (oi := ⟨some 70, .load 22 (.tmp 69), 22, "ref.go:147", #[⟨11, .data⟩], none⟩) (v := ?g45rv11) rfl (by kernel_rfl) (fun _ _ _ h => h) (by assumption) (by rfl) ?g45ry11 ?g45rr11
       case g45ry11 => intro w hSw; obtain ⟨⟨s0, s1⟩, s2, s3, s4, s5⟩ := hSw; go_simp; try with_reducible rfl
       try simp only [Act.put, pA, pB, pC]
       refine wpAnyF_take 13 (oi := ⟨some 71, .move (.tmp 12), 3, "ref.go:147", #[], none⟩) (v := ?g45rv12) rfl (by kernel_rfl) (fun _ _ _ h => h) (by assumption) (by rfl) ?g45ry12 ?g45rr12
       case g45ry12 => intro w hSw; obtain ⟨⟨s0, s1⟩, s2, s3, s4, s5⟩ := hSw; go_simp; try with_reducible rfl
       try simp only [Act.put, pA, pB, pC]
       refine wpAnyF_take 14 (oi := ⟨some 72, .indexAddr 22 (.tmp 70) (.tmp 71), 0, "ref.go:147", #[⟨12, .data⟩, ⟨13, .data⟩], none⟩) (v := ?g45rv13) rfl (by kernel_rfl) (fun _ _ _ h => h) (by assumption) (by rfl) ?g45ry13 ?g45rr13
       case g45ry13 => intro w hSw; obtain ⟨⟨s0, s1⟩, s2, s3, s4, s5⟩ := hSw; go_simp; try with_reducible rfl
       try simp only [Act.put, pA, pB, pC]
       refine wpAnyF_take 15 (oi := ⟨some 73, .load 3 (.tmp 72), 3, "ref.go:147", #[⟨14, .data⟩], none⟩) (v := ?g45rv14) rfl (by kernel_rfl) (fun _ _ _ h => h) (by assumption) (by rfl) ?g45ry14 ?g45rr14
       case g45ry14 => intro w hSw; obtain ⟨⟨s0, s1⟩, s2, s3, s4, s5⟩ := hSw; go_simp; try with_reducible rfl
       try simp only [Act.put, pA, pB, pC]
       refine wpAnyF_ready [7, 16] (by kernel_rfl) (by simp) ?_
       refine AllReadyF.cons 7 (o := ⟨some 65, .buildSlice 22 1 #[(0, .tmp 64)], 22, "ref.go:147", #[⟨6, .data⟩], none⟩) rfl (fun K hK => ?g45ro15) ?g45rm15
       case g45ro15 =>
        go_simp; refine gen_w (fun X hX => ?_); (have hb := OW.nb how hX); (have rn7 := OW.nr how hX); (replace row := row.below hb); (replace hch := hch.trans (chF hb) (fun i hi h => h.elim));  skip; (replace how := how.below hb); (replace hBW := Nat.le_trans hBW hb.size); clear hb hX
        refine hK.out _ _ ?g45rs15 (fun hHeld => ?g45rt15)
        case g45rs15 => (try dsimp only); (first | exact ⟨HZ10.out, HCD.out.drew.keep HXS.out.1 (HNX.out _ hwq), HCD.out.drew.keep HXS.out.2.1 (HNX.out _ hwq), HCD.out.drew.keep HXS.out.2.2.1 (HNX.out _ hprw), HCD.out.drew.keep HXS.out.2.2.2 (HNX.out _ hpdw)⟩ | exact ⟨⟨row.cell 0, row.cell 1⟩, hch.keep HXS.out.1 (HNX.out _ hwq), hch.keep HXS.out.2.1 (HNX.out _ hwq), hch.keep HXS.out.2.2.1 (HNX.out _ hprw), hch.keep HXS.out.2.2.2 (HNX.out _ hpdw)⟩)
        try dsimp only at hHeld
        clear hK K
        try simp only [Act.put, pA, pB, pC]
        refine wpAnyF_ready [8, 16] (by kernel_rfl) (by simp) ?_
        refine AllReadyF.cons 8 (o := ⟨some 66, .call { callee := .builtin .append, args := #[.tmp 59, .tmp 65], argTypes := #[22, 22] }, 22, "ref.go:147", #[⟨1, .data⟩, ⟨7, .data⟩], none⟩) rfl (fun K hK => ?g45ro16) ?g45rm16
        case g45ro16 =>
         (have o0 : Own w2.heap.size _ 3 1 (aa 0) L.length (cc 0) (celR L) := how.own 0 (by decide)); (refine step_append (B := w2.heap.size) rfl _ _ _ _ rfl ii (.int .i64 0) 8 Try.underlying22 hii hz0i hz1i hz2i rfl rfl o0 _ rfl 1 _ (src_rw (P := Try.prog) (tx := 22) Try.underlying22 rn7 1 1 rfl (by simp [Value.oneCell'])) (by simp only [maxLen]; omega) (by omega) hBW ?_; intro a8 cap8 W8 ho8 hc8 hn8);  skip; (replace row := row.chg hc8 (fun h => by have := h.2.1; omega)); (replace hch := hch.trans hc8 (fun i hi h => by have := h.2.1; omega)); (replace hBW := Nat.le_trans hBW hc8.size); (replace how := how.push (j := 0) (by decide) (Nat.succ_pos _) ho8 hc8 hn8); clear ho8 hc8 hn8 rn7 o0
         refine hK.out _ _ ?g45rs16 (fun hHeld => ?g45rt16)
         case g45rs16 => (try dsimp only); (first | exact ⟨HZ10.out, HCD.out.drew.keep HXS.out.1 (HNX.out _ hwq), HCD.out.drew.keep HXS.out.2.1 (HNX.out _ hwq), HCD.out.drew.keep HXS.out.2.2.1 (HNX.out _ hprw), HCD.out.drew.keep HXS.out.2.2.2 (HNX.out _ hpdw)⟩ | exact ⟨⟨row.cell 0, row.cell 1⟩, hch.keep HXS.out.1 (HNX.out _ hwq), hch.keep HXS.out.2.1 (HNX.out _ hwq), hch.keep HXS.out.2.2.1 (HNX.out _ hprw), hch.keep HXS.out.2.2.2 (HNX.out _ hpdw)⟩)
         try dsimp only at hHeld
         clear hK K
         try simp only [Act.put, pA, pB, pC]
         refine wpAnyF_take 18 (oi := ⟨some 76, .fieldAddr 46 (.tmp 10) 0, 0, "ref.go:147", #[⟨0, .phase⟩, ⟨1, .phase⟩, ⟨2, .phase⟩, ⟨3, .phase⟩, ⟨4, .phase⟩, ⟨5, .phase⟩, ⟨6, .phase⟩, ⟨7, .phase⟩, ⟨8, .phase⟩, ⟨9, .phase⟩, ⟨10, .phase⟩, { on := 11, ground := Go.Ground.textOnly Go.Departure.lateStores }, { on := 12, ground := Go.Ground.textOnly Go.Departure.lateStores }, { on := 13, ground := Go.Ground.textOnly Go.Departure.lateStores }, { on := 14, ground := Go.Ground.textOnly Go.Departure.lateStores }, { on := 15, ground := Go.Ground.textOnly Go.Departure.lateStores }, { on := 16, ground := Go.Ground.textOnly Go.Departure.lateStores }, { on := 17, ground := Go.Ground.textOnly Go.Departure.lateStoresUnsure }], none⟩) (v := ?g45rv17) rfl (by kernel_rfl) (fun _ _ _ h => h) (by assumption) (by rfl) ?g45ry17 ?g45rr17
         case g45ry17 => intro w hSw; obtain ⟨⟨s0, s1⟩, s2, s3, s4, s5⟩ := hSw; go_simp; try with_reducible rfl
         try simp only [Act.put, pA, pB, pC]
         refine wpAnyF_ready [16] (by kernel_rfl) (by simp) ?_
         refine AllReadyF.cons 16 (o := ⟨some 74, .buildSlice 22 1 #[(0, .tmp 73)], 22, "ref.go:147", #[⟨15, .data⟩], none⟩) rfl (fun K hK => ?g45ro18) ?g45rm18
         case g45rm18 => exact AllReadyF.nil
         go_simp; refine gen_w (fun X hX => ?_); (have hb := OW.nb how hX); (have rn16 := OW.nr how hX); (have hl16 := fun j g (hj : j < 3) hg => (how.lt j g hj hg).1); (replace row := row.below hb); (replace hch := hch.trans (chF hb) (fun i hi h => h.elim)); (try replace rn7 := rn7.below hb); (replace how := how.below hb); (replace hBW := Nat.le_trans hBW hb.size); clear hb hX
         refine hK.out _ _ ?g45rs18 (fun hHeld => ?g45rt18)
         case g45rs18 => (try dsimp only); (first | exact ⟨HZ10.out, HCD.out.drew.keep HXS.out.1 (HNX.out _ hwq), HCD.out.drew.keep HXS.out.2.1 (HNX.out _ hwq), HCD.out.drew.keep HXS.out.2.2.1 (HNX.out _ hprw), HCD.out.drew.keep HXS.out.2.2.2 (HNX.out _ hpdw)⟩ | exact ⟨⟨row.cell 0, row.cell 1⟩, hch.keep HXS.out.1 (HNX.out _ hwq), hch.keep HXS.out.2.1 (HNX.out _ hwq), hch.keep HXS.out.2.2.1 (HNX.out _ hprw), hch.keep HXS.out.2.2.2 (HNX.out _ hpdw)⟩)
         try dsimp only at hHeld
         clear hK K
         try simp only [Act.put, pA, pB, pC]
         refine wpAnyF_ready [17] (by kernel_rfl) (by simp) ?_
         refine AllReadyF.cons 17 (o := ⟨some 75, .call { callee := .builtin .append, args := #[.tmp 68, .tmp 74], argTypes := #[22, 22] }, 22, "ref.go:147", #[⟨10, .data⟩, ⟨16, .data⟩, ⟨8, .chain⟩], none⟩) rfl (fun K hK => ?g45ro19) ?g45rm19
         case g45rm19 => exact AllReadyF.nil
         (have o1 : Own w2.heap.size _ 3 1 (aa 1) L.length (cc 1) (celD L) := how.own 1 (by decide)); (refine step_append (B := w2.heap.size) rfl _ _ _ _ rfl ii (.int .i64 0) 8 Try.underlying22 hii hz0i hz1i hz2i rfl rfl o1 _ rfl 1 _ (src_rw (P := Try.prog) (tx := 22) Try.underlying22 rn16 1 1 rfl (by simp [Value.oneCell'])) (by simp only [maxLen]; omega) (by omega) hBW ?_; intro a17 cap17 W17 ho17 hc17 hn17); (replace row := row.chg hc17 (fun h => by have := h.2.1; omega)); (replace hch := hch.trans hc17 (fun i hi h => by have := h.2.1; omega)); (replace hBW := Nat.le_trans hBW hc17.size); (replace how := how.push (j := 1) (by decide) (Nat.succ_pos _) ho17 hc17 hn17); clear ho17 hc17 hn17 rn16 o1
         refine hK.out _ _ ?g45rs19 (fun hHeld => ?g45rt19)
         case g45rs19 => (try dsimp only); (first | exact ⟨HZ10.out, HCD.out.drew.keep HXS.out.1 (HNX.out _ hwq), HCD.out.drew.keep HXS.out.2.1 (HNX.out _ hwq), HCD.out.drew.keep HXS.out.2.2.1 (HNX.out _ hprw), HCD.out.drew.keep HXS.out.2.2.2 (HNX.out _ hpdw)⟩ | exact ⟨⟨row.cell 0, row.cell 1⟩, hch.keep HXS.out.1 (HNX.out _ hwq), hch.keep HXS.out.2.1 (HNX.out _ hwq), hch.keep HXS.out.2.2.1 (HNX.out _ hprw), hch.keep HXS.out.2.2.2 (HNX.out _ hpdw)⟩)
         try dsimp only at hHeld
         clear hK K
         try simp only [Act.put, pA, pB, pC]
         refine wpAnyF_ready [19] (by kernel_rfl) (by simp) ?_
         refine AllReadyF.last 19 (o := ⟨none, .store 22 (.tmp 76) (.tmp 66), 0, "ref.go:147", #[⟨18, .data⟩, ⟨8, .data⟩, ⟨17, .chain⟩, ⟨0, .phase⟩, ⟨1, .phase⟩, ⟨2, .phase⟩, ⟨3, .phase⟩, ⟨4, .phase⟩, ⟨5, .phase⟩, ⟨6, .phase⟩, ⟨7, .phase⟩, ⟨8, .phase⟩, ⟨9, .phase⟩, ⟨10, .phase⟩, { on := 11, ground := Go.Ground.textOnly Go.Departure.lateStores }, { on := 12, ground := Go.Ground.textOnly Go.Departure.lateStores }, { on := 13, ground := Go.Ground.textOnly Go.Departure.lateStores }, { on := 14, ground := Go.Ground.textOnly Go.Departure.lateStores }, { on := 15, ground := Go.Ground.textOnly Go.Departure.lateStores }, { on := 16, ground := Go.Ground.textOnly Go.Departure.lateStores }, { on := 17, ground := Go.Ground.textOnly Go.Departure.lateStoresUnsure }], none⟩) rfl (by kernel_rfl) (fun K hK => ?g45ro20) ?g45rm20
         case g45rm20 => exact AllReadyF.nil
         (obtain ⟨⟨y0, y1⟩, _⟩ := hHeld); (have qf := row.frozen); (have ql := row.lt); go_simp
         refine hK.out _ _ ?_
         clear hK K
         try simp only [Act.put, pA, pB, pC]
         refine wpAnyF_ready [20] (by kernel_rfl) (by simp) ?_
         refine AllReadyF.last 20 (o := ⟨some 77, .fieldAddr 46 (.tmp 10) 1, 0, "ref.go:147", #[⟨0, .phase⟩, ⟨1, .phase⟩, ⟨2, .phase⟩, ⟨3, .phase⟩, ⟨4, .phase⟩, ⟨5, .phase⟩, ⟨6, .phase⟩, ⟨7, .phase⟩, ⟨8, .phase⟩, ⟨9, .phase⟩, ⟨10, .phase⟩, ⟨11, .phase⟩, ⟨12, .phase⟩, ⟨13, .phase⟩, ⟨14, .phase⟩, ⟨15, .phase⟩, ⟨16, .phase⟩, ⟨17, .phase⟩, ⟨18, .phase⟩, ⟨19, .phase⟩], none⟩) rfl (by kernel_rfl) (fun K hK => ?g45ro21) ?g45rm21
         case g45rm21 => exact AllReadyF.nil
         go_simp
         refine hK.out _ _ ?_
         clear hK K
         try simp only [Act.put, pA, pB, pC]
         refine wpAnyF_ready [21] (by kernel_rfl) (by simp) ?_
         refine AllReadyF.last 21 (o := ⟨none, .store 22 (.tmp 77) (.tmp 75), 0, "ref.go:147", #[⟨20, .data⟩, ⟨17, .data⟩, ⟨19, .chain⟩, ⟨0, .phase⟩, ⟨1, .phase⟩, ⟨2, .phase⟩, ⟨3, .phase⟩, ⟨4, .phase⟩, ⟨5, .phase⟩, ⟨6, .phase⟩, ⟨7, .phase⟩, ⟨8, .phase⟩, ⟨9, .phase⟩, ⟨10, .phase⟩, ⟨11, .phase⟩, ⟨12, .phase⟩, ⟨13, .phase⟩, ⟨14, .phase⟩, ⟨15, .phase⟩, ⟨16, .phase⟩, ⟨17, .phase⟩, ⟨18, .phase⟩, ⟨19, .phase⟩], none⟩) rfl (by kernel_rfl) (fun K hK => ?g45ro22) ?g45rm22
         case g45rm22 => exact AllReadyF.nil
         go_simp
         refine hK.out _ _ ?_
         clear hK K
         try simp only [Act.put, pA, pB, pC]
         refine wpAnyF_done (by kernel_rfl) ?_
         have hrow := rw2 row (.slice a8 (L.length + 1) cap8) (.slice a17 (L.length + 1) cap17)
         have hcl := ((Chg.refl (fun b => b = q10) W17).setCell (p := ⟨q10, 0, none⟩) (.inr rfl) (.slice a8 (L.length + 1) cap8)).setCell (p := ⟨q10, 1, none⟩) (.inr rfl) (.slice a17 (L.length + 1) cap17)
         have hch2 := (hch.setCell (p := ⟨q10, 0, none⟩) (.inr rfl) (.slice a8 (L.length + 1) cap8)).setCell (p := ⟨q10, 1, none⟩) (.inr rfl) (.slice a17 (L.length + 1) cap17)
         have how2 := how.chg hcl (fun g hg _ he => by have he' : g = q10 := he; omega)
         have HM := Lib.hid (show OutM q10 w2.heap.size L cr cd _ from ⟨aa, cc, a8, a17, cap8, cap17, how2, hrow⟩)
         have HC2 := Lib.hid hch2
         clear row how hch hrow hcl hch2 how2 qf ql y0 y1
         go_wp2_with fail
         go_meet
         case rel => exact ⟨rfl, HM, HC2⟩
        case g45rm16 =>
        refine AllReadyF.cons 16 (o := ⟨some 74, .buildSlice 22 1 #[(0, .tmp 73)], 22, "ref.go:147", #[⟨15, .data⟩], none⟩) rfl (fun K hK => ?g45ro23) ?g45rm23
        case g45ro23 =>
         go_simp; refine gen_w (fun X hX => ?_); (have hb := OW.nb how hX); (have rn16 := OW.nr how hX); (have hl16 := fun j g (hj : j < 3) hg => (how.lt j g hj hg).1); (replace row := row.below hb); (replace hch := hch.trans (chF hb) (fun i hi h => h.elim)); (try replace rn7 := rn7.below hb); (replace how := how.below hb); (replace hBW := Nat.le_trans hBW hb.size); clear hb hX
         refine hK.out _ _ ?g45rs23 (fun hHeld => ?g45rt23)
         case g45rs23 => (try dsimp only); (first | exact ⟨HZ10.out, HCD.out.drew.keep HXS.out.1 (HNX.out _ hwq), HCD.out.drew.keep HXS.out.2.1 (HNX.out _ hwq), HCD.out.drew.keep HXS.out.2.2.1 (HNX.out _ hprw), HCD.out.drew.keep HXS.out.2.2.2 (HNX.out _ hpdw)⟩ | exact ⟨⟨row.cell 0, row.cell 1⟩, hch.keep HXS.out.1 (HNX.out _ hwq), hch.keep HXS.out.2.1 (HNX.out _ hwq), hch.keep HXS.out.2.2.1 (HNX.out _ hprw), hch.keep HXS.out.2.2.2 (HNX.out _ hpdw)⟩)
         try dsimp only at hHeld
         clear hK K
         try simp only [Act.put, pA, pB, pC]
         refine wpAnyF_ready [8] (by kernel_rfl) (by simp) ?_
         refine AllReadyF.cons 8 (o := ⟨some 66, .call { callee := .builtin .append, args := #[.tmp 59, .tmp 65], argTypes := #[22, 22] }, 22, "ref.go:147", #[⟨1, .data⟩, ⟨7, .data⟩], none⟩) rfl (fun K hK => ?g45ro24) ?g45rm24
         case g45rm24 => exact AllReadyF.nil
         (have o0 : Own w2.heap.size _ 3 1 (aa 0) L.length (cc 0) (celR L) := how.own 0 (by decide)); (refine step_append (B := w2.heap.size) rfl _ _ _ _ rfl ii (.int .i64 0) 8 Try.underlying22 hii hz0i hz1i hz2i rfl rfl o0 _ rfl 1 _ (src_rw (P := Try.prog) (tx := 22) Try.underlying22 rn7 1 1 rfl (by simp [Value.oneCell'])) (by simp only [maxLen]; omega) (by omega) hBW ?_; intro a8 cap8 W8 ho8 hc8 hn8);  (replace rn16 := rn16.chg hc8 (fun h => Nat.lt_irrefl _ (hl16 0 _ (by decide) h.1))) ; (replace row := row.chg hc8 (fun h => by have := h.2.1; omega)); (replace hch := hch.trans hc8 (fun i hi h => by have := h.2.1; omega)); (replace hBW := Nat.le_trans hBW hc8.size); (replace how := how.push (j := 0) (by decide) (Nat.succ_pos _) ho8 hc8 hn8); clear ho8 hc8 hn8 rn7 o0
         refine hK.out _ _ ?g45rs24 (fun hHeld => ?g45rt24)
         case g45rs24 => (try dsimp only); (first | exact ⟨HZ10.out, HCD.out.drew.keep HXS.out.1 (HNX.out _ hwq), HCD.out.drew.keep HXS.out.2.1 (HNX.out _ hwq), HCD.out.drew.keep HXS.out.2.2.1 (HNX.out _ hprw), HCD.out.drew.keep HXS.out.2.2.2 (HNX.out _ hpdw)⟩ | exact ⟨⟨row.cell 0, row.cell 1⟩, hch.keep HXS.out.1 (HNX.out _ hwq), hch.keep HXS.out.2.1 (HNX.out _ hwq), hch.keep HXS.out.2.2.1 (HNX.out _ hprw), hch.keep HXS.out.2.2.2 (HNX.out _ hpdw)⟩)
         try dsimp only at hHeld
         clear hK K
         try simp only [Act.put, pA, pB, pC]
         refine wpAnyF_take 18 (oi := ⟨some 76, .fieldAddr 46 (.tmp 10) 0, 0, "ref.go:147", #[⟨0, .phase⟩, ⟨1, .phase⟩, ⟨2, .phase⟩, ⟨3, .phase⟩, ⟨4, .phase⟩, ⟨5, .phase⟩, ⟨6, .phase⟩, ⟨7, .phase⟩, ⟨8, .phase⟩, ⟨9, .phase⟩, ⟨10, .phase⟩, { on := 11, ground := Go.Ground.textOnly Go.Departure.lateStores }, { on := 12, ground := Go.Ground.textOnly Go.Departure.lateStores }, { on := 13, ground := Go.Ground.textOnly Go.Departure.lateStores }, { on := 14, ground := Go.Ground.textOnly Go.Departure.lateStores }, { on := 15, ground := Go.Ground.textOnly Go.Departure.lateStores }, { on := 16, ground := Go.Ground.textOnly Go.Departure.lateStores }, { on := 17, ground := Go.Ground.textOnly Go.Departure.lateStoresUnsure }], none⟩) (v := ?g45rv25) rfl (by kernel_rfl) (fun _ _ _ h => h) (by assumption) (by rfl) ?g45ry25 ?g45rr25
         case g45ry25 => intro w hSw; obtain ⟨⟨s0, s1⟩, s2, s3, s4, s5⟩ := hSw; go_simp; try with_reducible rfl
         try simp only [Act.put, pA, pB, pC]
         refine wpAnyF_ready [17] (by kernel_rfl) (by simp) ?_
         refine AllReadyF.cons 17 (o := ⟨some 75, .call { callee := .builtin .append, args := #[.tmp 68, .tmp 74], argTypes := #[22, 22] }, 22, "ref.go:147", #[⟨10, .data⟩, ⟨16, .data⟩, ⟨8, .chain⟩], none⟩) rfl (fun K hK => ?g45ro26) ?g45rm26
         case g45rm26 => exact AllReadyF.nil
         (have o1 : Own w2.heap.size _ 3 1 (aa 1) L.length (cc 1) (celD L) := how.own 1 (by decide)); (refine step_append (B := w2.heap.size) rfl _ _ _ _ rfl ii (.int .i64 0) 8 Try.underlying22 hii hz0i hz1i hz2i rfl rfl o1 _ rfl 1 _ (src_rw (P := Try.prog) (tx := 22) Try.underlying22 rn16 1 1 rfl (by simp [Value.oneCell'])) (by simp only [maxLen]; omega) (by omega) hBW ?_; intro a17 cap17 W17 ho17 hc17 hn17); (replace row := row.chg hc17 (fun h => by have := h.2.1; omega)); (replace hch := hch.trans hc17 (fun i hi h => by have := h.2.1; omega)); (replace hBW := Nat.le_trans hBW hc17.size); (replace how := how.push (j := 1) (by decide) (Nat.succ_pos _) ho17 hc17 hn17); clear ho17 hc17 hn17 rn16 o1
         refine hK.out _ _ ?g45rs26 (fun hHeld => ?g45rt26)
         case g45rs26 => (try dsimp only); (first | exact ⟨HZ10.out, HCD.out.drew.keep HXS.out.1 (HNX.out _ hwq), HCD.out.drew.keep HXS.out.2.1 (HNX.out _ hwq), HCD.out.drew.keep HXS.out.2.2.1 (HNX.out _ hprw), HCD.out.drew.keep HXS.out.2.2.2 (HNX.out _ hpdw)⟩ | exact ⟨⟨row.cell 0, row.cell 1⟩, hch.keep HXS.out.1 (HNX.out _ hwq), hch.keep HXS.out.2.1 (HNX.out _ hwq), hch.keep HXS.out.2.2.1 (HNX.out _ hprw), hch.keep HXS.out.2.2.2 (HNX.out _ hpdw)⟩)
         try dsimp only at hHeld
         clear hK K
         try simp only [Act.put, pA, pB, pC]
         refine wpAnyF_ready [19] (by kernel_rfl) (by simp) ?_
         refine AllReadyF.last 19 (o := ⟨none, .store 22 (.tmp 76) (.tmp 66), 0, "ref.go:147", #[⟨18, .data⟩, ⟨8, .data⟩, ⟨17, .chain⟩, ⟨0, .phase⟩, ⟨1, .phase⟩, ⟨2, .phase⟩, ⟨3, .phase⟩, ⟨4, .phase⟩, ⟨5, .phase⟩, ⟨6, .phase⟩, ⟨7, .phase⟩, ⟨8, .phase⟩, ⟨9, .phase⟩, ⟨10, .phase⟩, { on := 11, ground := Go.Ground.textOnly Go.Departure.lateStores }, { on := 12, ground := Go.Ground.textOnly Go.Departure.lateStores }, { on := 13, ground := Go.Ground.textOnly Go.Departure.lateStores }, { on := 14, ground := Go.Ground.textOnly Go.Departure.lateStores }, { on := 15, ground := Go.Ground.textOnly Go.Departure.lateStores }, { on := 16, ground := Go.Ground.textOnly Go.Departure.lateStores }, { on := 17, ground := Go.Ground.textOnly Go.Departure.lateStoresUnsure }], none⟩) rfl (by kernel_rfl) (fun K hK => ?g45ro27) ?g45rm27
         case g45rm27 => exact AllReadyF.nil
         (obtain ⟨⟨y0, y1⟩, _⟩ := hHeld); (have qf := row.frozen); (have ql := row.lt); go_simp
         refine hK.out _ _ ?_
         clear hK K
         try simp only [Act.put, pA, pB, pC]
         refine wpAnyF_ready [20] (by kernel_rfl) (by simp) ?_
         refine AllReadyF.last 20 (o := ⟨some 77, .fieldAddr 46 (.tmp 10) 1, 0, "ref.go:147", #[⟨0, .phase⟩, ⟨1, .phase⟩, ⟨2, .phase⟩, ⟨3, .phase⟩, ⟨4, .phase⟩, ⟨5, .phase⟩, ⟨6, .phase⟩, ⟨7, .phase⟩, ⟨8, .phase⟩, ⟨9, .phase⟩, ⟨10, .phase⟩, ⟨11, .phase⟩, ⟨12, .phase⟩, ⟨13, .phase⟩, ⟨14, .phase⟩, ⟨15, .phase⟩, ⟨16, .phase⟩, ⟨17, .phase⟩, ⟨18, .phase⟩, ⟨19, .phase⟩], none⟩) rfl (by kernel_rfl) (fun K hK => ?g45ro28) ?g45rm28
         case g45rm28 => exact AllReadyF.nil
         go_simp
         refine hK.out _ _ ?_
         clear hK K
         try simp only [Act.put, pA, pB, pC]
         refine wpAnyF_ready [21] (by kernel_rfl) (by simp) ?_
         refine AllReadyF.last 21 (o := ⟨none, .store 22 (.tmp 77) (.tmp 75), 0, "ref.go:147", #[⟨20, .data⟩, ⟨17, .data⟩, ⟨19, .chain⟩, ⟨0, .phase⟩, ⟨1, .phase⟩, ⟨2, .phase⟩, ⟨3, .phase⟩, ⟨4, .phase⟩, ⟨5, .phase⟩, ⟨6, .phase⟩, ⟨7, .phase⟩, ⟨8, .phase⟩, ⟨9, .phase⟩, ⟨10, .phase⟩, ⟨11, .phase⟩, ⟨12, .phase⟩, ⟨13, .phase⟩, ⟨14, .phase⟩, ⟨15, .phase⟩, ⟨16, .phase⟩, ⟨17, .phase⟩, ⟨18, .phase⟩, ⟨19, .phase⟩], none⟩) rfl (by kernel_rfl) (fun K hK => ?g45ro29) ?g45rm29
         case g45rm29 => exact AllReadyF.nil
         go_simp
         refine hK.out _ _ ?_
         clear hK K
         try simp only [Act.put, pA, pB, pC]
         refine wpAnyF_done (by kernel_rfl) ?_
         have hrow := rw2 row (.slice a8 (L.length + 1) cap8) (.slice a17 (L.length + 1) cap17)
         have hcl := ((Chg.refl (fun b => b = q10) W17).setCell (p := ⟨q10, 0, none⟩) (.inr rfl) (.slice a8 (L.length + 1) cap8)).setCell (p := ⟨q10, 1, none⟩) (.inr rfl) (.slice a17 (L.length + 1) cap17)
         have hch2 := (hch.setCell (p := ⟨q10, 0, none⟩) (.inr rfl) (.slice a8 (L.length + 1) cap8)).setCell (p := ⟨q10, 1, none⟩) (.inr rfl) (.slice a17 (L.length + 1) cap17)
         have how2 := how.chg hcl (fun g hg _ he => by have he' : g = q10 := he; omega)
         have HM := Lib.hid (show OutM q10 w2.heap.size L cr cd _ from ⟨aa, cc, a8, a17, cap8, cap17, how2, hrow⟩)
         have HC2 := Lib.hid hch2
         clear row how hch hrow hcl hch2 how2 qf ql y0 y1
         go_wp2_with fail
         go_meet
         case rel => exact ⟨rfl, HM, HC2⟩
        case g45rm23 =>
        exact AllReadyF.nil
       case g45rm15 =>
       refine AllReadyF.cons 16 (o := ⟨some 74, .buildSlice 22 1 #[(0, .tmp 73)], 22, "ref.go:147", #[⟨15, .data⟩], none⟩) rfl (fun K hK => ?g45ro30) ?g45rm30
       case g45ro30 =>
        go_simp; refine gen_w (fun X hX => ?_); (have hb := OW.nb how hX); (have rn16 := OW.nr how hX); (have hl16 := fun j g (hj : j < 3) hg => (how.lt j g hj hg).1); (replace row := row.below hb); (replace hch := hch.trans (chF hb) (fun i hi h => h.elim)); (try replace rn7 := rn7.below hb); (replace how := how.below hb); (replace hBW := Nat.le_trans hBW hb.size); clear hb hX
        refine hK.out _ _ ?g45rs30 (fun hHeld => ?g45rt30)
        case g45rs30 => (try dsimp only); (first | exact ⟨HZ10.out, HCD.out.drew.keep HXS.out.1 (HNX.out _ hwq), HCD.out.drew.keep HXS.out.2.1 (HNX.out _ hwq), HCD.out.drew.keep HXS.out.2.2.1 (HNX.out _ hprw), HCD.out.drew.keep HXS.out.2.2.2 (HNX.out _ hpdw)⟩ | exact ⟨⟨row.cell 0, row.cell 1⟩, hch.keep HXS.out.1 (HNX.out _ hwq), hch.keep HXS.out.2.1 (HNX.out _ hwq), hch.keep HXS.out.2.2.1 (HNX.out _ hprw), hch.keep HXS.out.2.2.2 (HNX.out _ hpdw)⟩)
        try dsimp only at hHeld
        clear hK K
        try simp only [Act.put, pA, pB, pC]
        refine wpAnyF_ready [7] (by kernel_rfl) (by simp) ?_
        refine AllReadyF.cons 7 (o := ⟨some 65, .buildSlice 22 1 #[(0, .tmp 64)], 22, "ref.go:147", #[⟨6, .data⟩], none⟩) rfl (fun K hK => ?g45ro31) ?g45rm31
        case g45rm31 => exact AllReadyF.nil
        go_simp; refine gen_w (fun X hX => ?_); (have hb := OW.nb how hX); (have rn7 := OW.nr how hX); (replace row := row.below hb); (replace hch := hch.trans (chF hb) (fun i hi h => h.elim));  (replace rn16 := rn16.below hb) ; (replace how := how.below hb); (replace hBW := Nat.le_trans hBW hb.size); clear hb hX
        refine hK.out _ _ ?g45rs31 (fun hHeld => ?g45rt31)
        case g45rs31 => (try dsimp only); (first | exact ⟨HZ10.out, HCD.out.drew.keep HXS.out.1 (HNX.out _ hwq), HCD.out.drew.keep HXS.out.2.1 (HNX.out _ hwq), HCD.out.drew.keep HXS.out.2.2.1 (HNX.out _ hprw), HCD.out.drew.keep HXS.out.2.2.2 (HNX.out _ hpdw)⟩ | exact ⟨⟨row.cell 0, row.cell 1⟩, hch.keep HXS.out.1 (HNX.out _ hwq), hch.keep HXS.out.2.1 (HNX.out _ hwq), hch.keep HXS.out.2.2.1 (HNX.out _ hprw), hch.keep HXS.out.2.2.2 (HNX.out _ hpdw)⟩)
        try dsimp only at hHeld
        clear hK K
        try simp only [Act.put, pA, pB, pC]
        refine wpAnyF_ready [8] (by kernel_rfl) (by simp) ?_
        refine AllReadyF.cons 8 (o := ⟨some 66, .call { callee := .builtin .append, args := #[.tmp 59, .tmp 65], argTypes := #[22, 22] }, 22, "ref.go:147", #[⟨1, .data⟩, ⟨7, .data⟩], none⟩) rfl (fun K hK => ?g45ro32) ?g45rm32
        case g45rm32 => exact AllReadyF.nil
        (have o0 : Own w2.heap.size _ 3 1 (aa 0) L.length (cc 0) (celR L) := how.own 0 (by decide)); (refine step_append (B := w2.heap.size) rfl _ _ _ _ rfl ii (.int .i64 0) 8 Try.underlying22 hii hz0i hz1i hz2i rfl rfl o0 _ rfl 1 _ (src_rw (P := Try.prog) (tx := 22) Try.underlying22 rn7 1 1 rfl (by simp [Value.oneCell'])) (by simp only [maxLen]; omega) (by omega) hBW ?_; intro a8 cap8 W8 ho8 hc8 hn8);  (replace rn16 := rn16.chg hc8 (fun h => Nat.lt_irrefl _ (hl16 0 _ (by decide) h.1))) ; (replace row := row.chg hc8 (fun h => by have := h.2.1; omega)); (replace hch := hch.trans hc8 (fun i hi h => by have := h.2.1; omega)); (replace hBW := Nat.le_trans hBW hc8.size); (replace how := how.push (j := 0) (by decide) (Nat.succ_pos _) ho8 hc8 hn8); clear ho8 hc8 hn8 rn7 o0
        refine hK.out _ _ ?g45rs32 (fun hHeld => ?g45rt32)
        case g45rs32 => (try dsimp only); (first | exact ⟨HZ10.out, HCD.out.drew.keep HXS.out.1 (HNX.out _ hwq), HCD.out.drew.keep HXS.out.2.1 (HNX.out _ hwq), HCD.out.drew.keep HXS.out.2.2.1 (HNX.out _ hprw), HCD.out.drew.keep HXS.out.2.2.2 (HNX.out _ hpdw)⟩ | exact ⟨⟨row.cell 0, row.cell 1⟩, hch.keep HXS.out.1 (HNX.out _ hwq), hch.keep HXS.out.2.1 (HNX.out _ hwq), hch.keep HXS.out.2.2.1 (HNX.out _ hprw), hch.keep HXS.out.2.2.2 (HNX.out _ hpdw)⟩)
        try dsimp only at hHeld
        clear hK K
        try simp only [Act.put, pA, pB, pC]
        refine wpAnyF_take 18 (oi := ⟨some 76, .fieldAddr 46 (.tmp 10) 0, 0, "ref.go:147", #[⟨0, .phase⟩, ⟨1, .phase⟩, ⟨2, .phase⟩, ⟨3, .phase⟩, ⟨4, .phase⟩, ⟨5, .phase⟩, ⟨6, .phase⟩, ⟨7, .phase⟩, ⟨8, .phase⟩, ⟨9, .phase⟩, ⟨10, .phase⟩, { on := 11, ground := Go.Ground.textOnly Go.Departure.lateStores }, { on := 12, ground := Go.Ground.textOnly Go.Departure.lateStores }, { on := 13, ground := Go.Ground.textOnly Go.Departure.lateStores }, { on := 14, ground := Go.Ground.textOnly Go.Departure.lateStores }, { on := 15, ground := Go.Ground.textOnly Go.Departure.lateStores }, { on := 16, ground := Go.Ground.textOnly Go.Departure.lateStores }, { on := 17, ground := Go.Ground.textOnly Go.Departure.lateStoresUnsure }], none⟩) (v := ?g45rv33) rfl (by kernel_rfl) (fun _ _ _ h => h) (by assumption) (by rfl) ?g45ry33 ?g45rr33
        case g45ry33 => intro w hSw; obtain ⟨⟨s0, s1⟩, s2, s3, s4, s5⟩ := hSw; go_simp; try with_reducible rfl
        try simp only [Act.put, pA, pB, pC]
        refine wpAnyF_ready [17] (by kernel_rfl) (by simp) ?_
        refine AllReadyF.cons 17 (o := ⟨some 75, .call { callee := .builtin .append, args := #[.tmp 68, .tmp 74], argTypes := #[22, 22] }, 22, "ref.go:147", #[⟨10, .data⟩, ⟨16, .data⟩, ⟨8, .chain⟩], none⟩) rfl (fun K hK => ?g45ro34) ?g45rm34
        case g45rm34 => exact AllReadyF.nil
        (have o1 : Own w2.heap.size _ 3 1 (aa 1) L.length (cc 1) (celD L) := how.own 1 (by decide)); (refine step_append (B := w2.heap.size) rfl _ _ _ _ rfl ii (.int .i64 0) 8 Try.underlying22 hii hz0i hz1i hz2i rfl rfl o1 _ rfl 1 _ (src_rw (P := Try.prog) (tx := 22) Try.underlying22 rn16 1 1 rfl (by simp [Value.oneCell'])) (by simp only [maxLen]; omega) (by omega) hBW ?_; intro a17 cap17 W17 ho17 hc17 hn17); (replace row := row.chg hc17 (fun h => by have := h.2.1; omega)); (replace hch := hch.trans hc17 (fun i hi h => by have := h.2.1; omega)); (replace hBW := Nat.le_trans hBW hc17.size); (replace how := how.push (j := 1) (by decide) (Nat.succ_pos _) ho17 hc17 hn17); clear ho17 hc17 hn17 rn16 o1
        refine hK.out _ _ ?g45rs34 (fun hHeld => ?g45rt34)
        case g45rs34 => (try dsimp only); (first | exact ⟨HZ10.out, HCD.out.drew.keep HXS.out.1 (HNX.out _ hwq), HCD.out.drew.keep HXS.out.2.1 (HNX.out _ hwq), HCD.out.drew.keep HXS.out.2.2.1 (HNX.out _ hprw), HCD.out.drew.keep HXS.out.2.2.2 (HNX.out _ hpdw)⟩ | exact ⟨⟨row.cell 0, row.cell 1⟩, hch.keep HXS.out.1 (HNX.out _ hwq), hch.keep HXS.out.2.1 (HNX.out _ hwq), hch.keep HXS.out.2.2.1 (HNX.out _ hprw), hch.keep HXS.out.2.2.2 (HNX.out _ hpdw)⟩)
        try dsimp only at hHeld
        clear hK K
        try simp only [Act.put, pA, pB, pC]
        refine wpAnyF_ready [19] (by kernel_rfl) (by simp) ?_
        refine AllReadyF.last 19 (o := ⟨none, .store 22 (.tmp 76) (.tmp 66), 0, "ref.go:147", #[⟨18, .data⟩, ⟨8, .data⟩, ⟨17, .chain⟩, ⟨0, .phase⟩, ⟨1, .phase⟩, ⟨2, .phase⟩, ⟨3, .phase⟩, ⟨4, .phase⟩, ⟨5, .phase⟩, ⟨6, .phase⟩, ⟨7, .phase⟩, ⟨8, .phase⟩, ⟨9, .phase⟩, ⟨10, .phase⟩, { on := 11, ground := Go.Ground.textOnly Go.Departure.lateStores }, { on := 12, ground := Go.Ground.textOnly Go.Departure.lateStores }, { on := 13, ground := Go.Ground.textOnly Go.Departure.lateStores }, { on := 14, ground := Go.Ground.textOnly Go.Departure.lateStores }, { on := 15, ground := Go.Ground.textOnly Go.Departure.lateStores }, { on := 16, ground := Go.Ground.textOnly Go.Departure.lateStores }, { on := 17, ground := Go.Ground.textOnly Go.Departure.lateStoresUnsure }], none⟩) rfl (by kernel_rfl) (fun K hK => ?g45ro35) ?g45rm35
        case g45rm35 => exact AllReadyF.nil
        (obtain ⟨⟨y0, y1⟩, _⟩ := hHeld); (have qf := row.frozen); (have ql := row.lt); go_simp
        refine hK.out _ _ ?_
        clear hK K
        try simp only [Act.put, pA, pB, pC]
        refine wpAnyF_ready [20] (by kernel_rfl) (by simp) ?_
        refine AllReadyF.last 20 (o := ⟨some 77, .fieldAddr 46 (.tmp 10) 1, 0, "ref.go:147", #[⟨0, .phase⟩, ⟨1, .phase⟩, ⟨2, .phase⟩, ⟨3, .phase⟩, ⟨4, .phase⟩, ⟨5, .phase⟩, ⟨6, .phase⟩, ⟨7, .phase⟩, ⟨8, .phase⟩, ⟨9, .phase⟩, ⟨10, .phase⟩, ⟨11, .phase⟩, ⟨12, .phase⟩, ⟨13, .phase⟩, ⟨14, .phase⟩, ⟨15, .phase⟩, ⟨16, .phase⟩, ⟨17, .phase⟩, ⟨18, .phase⟩, ⟨19, .phase⟩], none⟩) rfl (by kernel_rfl) (fun K hK => ?g45ro36) ?g45rm36
        case g45rm36 => exact AllReadyF.nil
        go_simp
        refine hK.out _ _ ?_
        clear hK K
        try simp only [Act.put, pA, pB, pC]
        refine wpAnyF_ready [21] (by kernel_rfl) (by simp) ?_
        refine AllReadyF.last 21 (o := ⟨none, .store 22 (.tmp 77) (.tmp 75), 0, "ref.go:147", #[⟨20, .data⟩, ⟨17, .data⟩, ⟨19, .chain⟩, ⟨0, .phase⟩, ⟨1, .phase⟩, ⟨2, .phase⟩, ⟨3, .phase⟩, ⟨4, .phase⟩, ⟨5, .phase⟩, ⟨6, .phase⟩, ⟨7, .phase⟩, ⟨8, .phase⟩, ⟨9, .phase⟩, ⟨10, .phase⟩, ⟨11, .phase⟩, ⟨12, .phase⟩, ⟨13, .phase⟩, ⟨14, .phase⟩, ⟨15, .phase⟩, ⟨16, .phase⟩, ⟨17, .phase⟩, ⟨18, .phase⟩, ⟨19, .phase⟩], none⟩) rfl (by kernel_rfl) (fun K hK => ?g45ro37) ?g45rm37
        case g45rm37 => exact AllReadyF.nil
        go_simp
        refine hK.out _ _ ?_
        clear hK K
        try simp only [Act.put, pA, pB, pC]
        refine wpAnyF_done (by kernel_rfl) ?_
        have hrow := rw2 row (.slice a8 (L.length + 1) cap8) (.slice a17 (L.length + 1) cap17)
        have hcl := ((Chg.refl (fun b => b = q10) W17).setCell (p := ⟨q10, 0, none⟩) (.inr rfl) (.slice a8 (L.length + 1) cap8)).setCell (p := ⟨q10, 1, none⟩) (.inr rfl) (.slice a17 (L.length + 1) cap17)
        have hch2 := (hch.setCell (p := ⟨q10, 0, none⟩) (.inr rfl) (.slice a8 (L.length + 1) cap8)).setCell (p := ⟨q10, 1, none⟩) (.inr rfl) (.slice a17 (L.length + 1) cap17)
        have how2 := how.chg hcl (fun g hg _ he => by have he' : g = q10 := he; omega)
        have HM := Lib.hid (show OutM q10 w2.heap.size L cr cd _ from ⟨aa, cc, a8, a17, cap8, cap17, how2, hrow⟩)
        have HC2 := Lib.hid hch2
        clear row how hch hrow hcl hch2 how2 qf ql y0 y1
        go_wp2_with fail
        go_meet
        case rel => exact ⟨rfl, HM, HC2⟩
       case g45rm30 =>
       exact AllReadyF.nil
      case rest =>
       obtain ⟨rfl, HM, HCM⟩ := hcut
       clear HOW HROW HZ10
       obtain ⟨aa1, cc1, a8, a17, c8, c17, howM, rowM⟩ := HM.out
       cases cv with
       | none =>
        have hhf : hs = false := HHS.out
        clear HHS
        subst hhf
        have hq : OutQ q10 w2.heap.size (L ++ [⟨cr, cd, none⟩]) wc := by
         refine ⟨_, _, (howM.congr (fun j _ => upd_same _ 2 (aa1 2) (by rw [upd_ne _ _ (by decide), upd_ne _ _ (by decide)]) j) (fun j _ => upd_same _ 2 (celV L).length (by rw [upd_ne _ _ (by decide), upd_ne _ _ (by decide)]; rfl) j) (fun j _ => upd_same _ 2 (cc1 2) (by rw [upd_ne _ _ (by decide), upd_ne _ _ (by decide)]) j) (fun j _ => upd_same _ 2 (vcs (celV L)) (by rw [upd_ne _ _ (by decide), upd_ne _ _ (by decide)]; rfl) j)).congr (fun _ _ => rfl) (three3 ?_ ?_ ?_) (fun _ _ => rfl) (three3 ?_ ?_ ?_), ?_⟩
         ·simp [upd, n3, nC]
         ·simp [upd, n3, nC]
         ·simp [upd, n3, nC, celV]
         ·simp [upd, x3, xC, celR]
         ·simp [upd, x3, xC, celD]
         ·simp [upd, x3, xC, celV]
         ·simpa [upd, celV] using rowM
        have HQ := Lib.hid hq
        clear howM rowM hq
        go_wp2_with fail
        go_meet
        case rel => exact ⟨rfl, by rw [HLX.out]; exact HQ, HCM⟩
       | some v =>
        have hht : hs = true := HHS.out
        clear HHS
        subst hht
        have hvx := HCV.out v rfl
        have hnvl : nv < (celV C).length := (List.getElem?_eq_some_iff.1 hvx).1
        have HOM := Lib.hid howM; have HRM := Lib.hid rowM
        have o2 : Own w2.heap.size wc 54 2 (aa1 2) (celV L).length (cc1 2) (vcs (celV L)) := howM.own 2 (by decide)
        have HO2 := Lib.hid o2
        have hvL := celV_le L
        obtain ⟨pv, pvo, hpv, hpvl, hpvc⟩ := HX2.out.v.pos (by show 0 < (celV C).length; omega)
        subst hpv
        have hvc := vcs_get (celV C) nv hnvl
        have hvn' : (celV C)[nv] = v := Option.some.inj ((List.getElem?_eq_getElem hnvl).symm.trans hvx)
        rw [hvn'] at hvc
        have t0 := hpvc _ _ hvc.1; have t1 := hpvc _ _ hvc.2
        rw [← Nat.add_assoc] at t1
        have hpvw : pv ≠ q10 := by have h : pv < w.heap.size := hpvl; omega
        have e2 : wc.cell? ⟨q10, 2, none⟩ = some (.slice (aa1 2) (celV L).length (cc1 2)) := rowM.cell 2
        have HE2 := Lib.hid e2
        have HT2 := Lib.hid (And.intro HK2.out.2.2.1 (And.intro t0 t1))
        have hBM : w2.heap.size ≤ wc.heap.size := HCM.out.size
        clear howM rowM o2 hpvc hvc hvn' t0 t1 hvx
        go_upto_region 13 with fail
        clear e2
        refine wp_region_F (fun w' => w'.cell? ⟨q10, 2, none⟩ = some (.slice (aa1 2) (celV L).length (cc1 2)) ∧ w'.cell? ⟨w.heap.size, 2, none⟩ = some (.slice (some ⟨pv, pvo, none⟩) (celV C).length c2) ∧ w'.cell? ⟨pv, pvo + nv * 2, none⟩ = some (.int .i64 v.n) ∧ w'.cell? ⟨pv, pvo + nv * 2 + 1, none⟩ = some (.string v.s)) [9, 10] (by kernel_rfl) ?g46rgS (fun hHeld => ?g46rgR)
        case g46rgS => (try dsimp only); (first | exact ⟨HE2.out, HCM.out.drew.keep HT2.out.1 (HNX.out _ hwq), HCM.out.drew.keep HT2.out.2.1 (HNX.out _ hpvw), HCM.out.drew.keep HT2.out.2.2 (HNX.out _ hpvw)⟩ | exact ⟨row.cell 2, hch.keep HT2.out.1 (HNX.out _ hwq), hch.keep HT2.out.2.1 (HNX.out _ hpvw), hch.keep HT2.out.2.2 (HNX.out _ hpvw)⟩)
        try dsimp only at hHeld
        obtain ⟨W, hW⟩ : ∃ W, W = wc.drew := ⟨_, rfl⟩; rw [← hW] at hHeld ⊢; (have row := Rw.ren hW HRM.out.drew); (have how := HOM.out.below (show Below wc.heap.size wc W by rw [hW]; exact (b0 wc).drew)); (have hch : Chg (fun b => b = q10) w2 W := by rw [hW]; exact HCM.out.drew); (have hBW : w2.heap.size ≤ W.heap.size := hch.size); clear hW
        refine wpAnyF_take 0 (oi := ⟨some 79, .fieldAddr 46 (.tmp 10) 2, 0, "ref.go:149", #[], none⟩) (v := ?g46rv1) rfl (by kernel_rfl) (fun _ _ _ h => h) (by assumption) (by rfl) ?g46ry1 ?g46rr1
        case g46ry1 => intro w hSw; obtain ⟨s0, s1, s2, s3⟩ := hSw; go_simp; try with_reducible rfl
        try simp only [Act.put, pA, pB, pC]
        refine wpAnyF_take 1 (oi := ⟨some 80, .load 44 (.tmp 79), 44, "ref.go:149", #[⟨0, .data⟩], none⟩) (v := ?g46rv2) rfl (by kernel_rfl) (fun _ _ _ h => h) (by assumption) (by rfl) ?g46ry2 ?g46rr2
        case g46ry2 => intro w hSw; obtain ⟨s0, s1, s2, s3⟩ := hSw; go_simp; try with_reducible rfl
        try simp only [Act.put, pA, pB, pC]
        refine wpAnyF_take 2 (oi := ⟨some 81, .fieldAddr 46 (.tmp 4) 2, 0, "ref.go:149", #[], none⟩) (v := ?g46rv3) rfl (by kernel_rfl) (fun _ _ _ h => h) (by assumption) (by rfl) ?g46ry3 ?g46rr3
        case g46ry3 => intro w hSw; obtain ⟨s0, s1, s2, s3⟩ := hSw; go_simp; try with_reducible rfl
        try simp only [Act.put, pA, pB, pC]
        refine wpAnyF_take 3 (oi := ⟨some 82, .load 44 (.tmp 81), 44, "ref.go:149", #[⟨2, .data⟩], none⟩) (v := ?g46rv4) rfl (by kernel_rfl) (fun _ _ _ h => h) (by assumption) (by rfl) ?g46ry4 ?g46rr4
        case g46ry4 => intro w hSw; obtain ⟨s0, s1, s2, s3⟩ := hSw; go_simp; try with_reducible rfl
        try simp only [Act.put, pA, pB, pC]
        refine wpAnyF_take 4 (oi := ⟨some 83, .move (.tmp 11), 3, "ref.go:149", #[], none⟩) (v := ?g46rv5) rfl (by kernel_rfl) (fun _ _ _ h => h) (by assumption) (by rfl) ?g46ry5 ?g46rr5
        case g46ry5 => intro w hSw; obtain ⟨s0, s1, s2, s3⟩ := hSw; go_simp; try with_reducible rfl
        try simp only [Act.put, pA, pB, pC]
        refine wpAnyF_take 5 (oi := ⟨some 84, .indexAddr 44 (.tmp 82) (.tmp 83), 0, "ref.go:149", #[⟨3, .data⟩, ⟨4, .data⟩], none⟩) (v := ?g46rv6) rfl (by kernel_rfl) (fun _ _ _ h => h) (by assumption) (by rfl) ?g46ry6 ?g46rr6
        case g46ry6 => intro w hSw; obtain ⟨s0, s1, s2, s3⟩ := hSw; go_simp; try with_reducible rfl
        try simp only [Act.put, pA, pB, pC]
        refine wpAnyF_take 6 (oi := ⟨some 85, .load 54 (.tmp 84), 54, "ref.go:149", #[⟨5, .data⟩], none⟩) (v := ?g46rv7) rfl (by kernel_rfl) (fun _ _ _ h => h) (by assumption) (by rfl) ?g46ry7 ?g46rr7
        case g46ry7 => intro w hSw; obtain ⟨s0, s1, s2, s3⟩ := hSw; go_simp; try with_reducible rfl
        try simp only [Act.put, pA, pB, pC]
        refine wpAnyF_ready [7] (by kernel_rfl) (by simp) ?_
        refine AllReadyF.cons 7 (o := ⟨some 86, .buildSlice 44 1 #[(0, .tmp 85)], 44, "ref.go:149", #[⟨6, .data⟩], none⟩) rfl (fun K hK => ?g46ro8) ?g46rm8
        case g46rm8 => exact AllReadyF.nil
        go_simp; refine gen_w (fun X hX => ?_); (have hb := OW.nb how hX); (have rn7 := OW.nr how hX); (replace row := row.below hb); (replace hch := hch.trans (chF hb) (fun i hi h => h.elim)); (replace how := how.below hb); (replace hBW := Nat.le_trans hBW hb.size); clear hb hX
        refine hK.out _ _ ?g46rs8 (fun hHeld => ?g46rt8)
        case g46rs8 => (try dsimp only); (first | exact ⟨HE2.out, HCM.out.drew.keep HT2.out.1 (HNX.out _ hwq), HCM.out.drew.keep HT2.out.2.1 (HNX.out _ hpvw), HCM.out.drew.keep HT2.out.2.2 (HNX.out _ hpvw)⟩ | exact ⟨row.cell 2, hch.keep HT2.out.1 (HNX.out _ hwq), hch.keep HT2.out.2.1 (HNX.out _ hpvw), hch.keep HT2.out.2.2 (HNX.out _ hpvw)⟩)
        try dsimp only at hHeld
        clear hK K
        try simp only [Act.put, pA, pB, pC]
        refine wpAnyF_ready [8] (by kernel_rfl) (by simp) ?_
        refine AllReadyF.cons 8 (o := ⟨some 87, .call { callee := .builtin .append, args := #[.tmp 80, .tmp 86], argTypes := #[44, 44] }, 44, "ref.go:149", #[⟨1, .data⟩, ⟨7, .data⟩], none⟩) rfl (fun K hK => ?g46ro9) ?g46rm9
        case g46rm9 => exact AllReadyF.nil
        (have o2 : Own w2.heap.size _ 54 2 (aa1 2) (celV L).length (cc1 2) (vcs (celV L)) := how.own 2 (by decide)); (refine step_append (B := w2.heap.size) rfl _ _ _ _ rfl iv (.agg #[.int .i64 0, .string ByteArray.empty]) 24 Try.underlying44 hiv hz0v hz1v hz2v rfl rfl o2 _ rfl 1 _ (src_rw (P := Try.prog) (tx := 44) Try.underlying44 rn7 1 2 rfl (by simp [Value.oneCell'])) (by simp only [maxLen]; omega) (by omega) hBW ?_; intro a8' cap8' W8' ho8 hc8 hn8); (replace row := row.chg hc8 (fun h => by have := h.2.1; omega)); (replace hch := hch.trans hc8 (fun i hi h => by have := h.2.1; omega)); (replace hBW := Nat.le_trans hBW hc8.size); (replace how := how.push (j := 2) (by decide) (Nat.succ_pos _) ho8 hc8 hn8); clear ho8 hc8 hn8 rn7 o2
        refine hK.out _ _ ?g46rs9 (fun hHeld => ?g46rt9)
        case g46rs9 => (try dsimp only); (first | exact ⟨HE2.out, HCM.out.drew.keep HT2.out.1 (HNX.out _ hwq), HCM.out.drew.keep HT2.out.2.1 (HNX.out _ hpvw), HCM.out.drew.keep HT2.out.2.2 (HNX.out _ hpvw)⟩ | exact ⟨row.cell 2, hch.keep HT2.out.1 (HNX.out _ hwq), hch.keep HT2.out.2.1 (HNX.out _ hpvw), hch.keep HT2.out.2.2 (HNX.out _ hpvw)⟩)
        try dsimp only at hHeld
        clear hK K
        try simp only [Act.put, pA, pB, pC]
        refine wpAnyF_ready [9] (by kernel_rfl) (by simp) ?_
        refine AllReadyF.last 9 (o := ⟨some 88, .fieldAddr 46 (.tmp 10) 2, 0, "ref.go:149", #[⟨0, .phase⟩, ⟨1, .phase⟩, ⟨2, .phase⟩, ⟨3, .phase⟩, ⟨4, .phase⟩, ⟨5, .phase⟩, ⟨6, .phase⟩, ⟨7, .phase⟩, ⟨8, .phase⟩], none⟩) rfl (by kernel_rfl) (fun K hK => ?g46ro10) ?g46rm10
        case g46rm10 => exact AllReadyF.nil
        go_simp
        refine hK.out _ _ ?_
        clear hK K
        try simp only [Act.put, pA, pB, pC]
        refine wpAnyF_ready [10] (by kernel_rfl) (by simp) ?_
        refine AllReadyF.last 10 (o := ⟨none, .store 44 (.tmp 88) (.tmp 87), 0, "ref.go:149", #[⟨9, .data⟩, ⟨8, .data⟩, ⟨8, .chain⟩, ⟨0, .phase⟩, ⟨1, .phase⟩, ⟨2, .phase⟩, ⟨3, .phase⟩, ⟨4, .phase⟩, ⟨5, .phase⟩, ⟨6, .phase⟩, ⟨7, .phase⟩, ⟨8, .phase⟩], none⟩) rfl (by kernel_rfl) (fun K hK => ?g46ro11) ?g46rm11
        case g46rm11 => exact AllReadyF.nil
        (obtain ⟨y0, _⟩ := hHeld); (have qf := row.frozen); (have ql := row.lt); go_simp
        refine hK.out _ _ ?_
        clear hK K
        try simp only [Act.put, pA, pB, pC]
        refine wpAnyF_done (by kernel_rfl) ?_
        have hrow := row.set 2 (.slice a8' ((celV L).length + 1) cap8')
        have hcl := (Chg.refl (fun b => b = q10) W8').setCell (p := ⟨q10, 2, none⟩) (.inr rfl) (.slice a8' ((celV L).length + 1) cap8')
        have hch2 := hch.setCell (p := ⟨q10, 2, none⟩) (.inr rfl) (.slice a8' ((celV L).length + 1) cap8')
        have how2 := how.chg hcl (fun g hg _ he => by have he' : g = q10 := he; omega)
        have hq : OutQ q10 w2.heap.size (L ++ [⟨cr, cd, some v⟩]) (W8'.setCell ⟨q10, 2, none⟩ (.slice a8' ((celV L).length + 1) cap8')) := by
         refine ⟨_, _, how2.congr (fun _ _ => rfl) (three3 ?_ ?_ ?_) (fun _ _ => rfl) (three3 ?_ ?_ ?_), ?_⟩
         ·simp [upd, n3, nC]
         ·simp [upd, n3, nC]
         ·simp [upd, n3, nC, celV]
         ·simp [upd, x3, xC, celR]
         ·simp [upd, x3, xC, celD]
         ·simp [upd, x3, xC, celV, vcs]
         ·simpa [upd, celV] using hrow
        have HQ := Lib.hid hq; have HC3 := Lib.hid hch2
        clear row how hch hrow hcl hch2 how2 qf ql y0 hq
        go_wp2_with fail
        go_meet
        case rel => exact ⟨rfl, by rw [HLX.out]; exact HQ, HC3⟩
     ·have hAi : ¬ (A : Int) ≤ (i : Int) := by omega
      have HLX := Lib.hid (HLN.out hA)
      go_wp2_with fail
      go_meet
      case rel => exact ⟨rfl, by rw [HLX.out]; exact HOD, HCD⟩
    case rest =>
     obtain ⟨rfl, HO2, HCH2⟩ := hcut
     have HNV1 : Hid ((celV (C.take (i + 1))).length = nv + if hs = true then 1 else 0) := Lib.hid (by
      rw [HCT.out, List.length_append, HNV.out, HHS.out]
      cases cv <;> rfl)
     cases hs with
     | true =>
      go_wp2_with fail
      go_roundw
      case rel => exact ⟨i + 1, by rw [HNV1.out]; go_num, by go_num, by omega, HO2, HCH2⟩
      case measure => simp [intOf]; omega
     | false =>
      go_wp2_with fail
      go_roundw
      case rel => exact ⟨i + 1, by rw [HNV1.out]; rfl, by go_num, by omega, HO2, HCH2⟩
      case measure => simp [intOf]; omega
   ·obtain rfl : i = B := by omega
    obtain ⟨aa, cc, how, row⟩ := HO.out
    have hoq := HO.out
    have HOW := Lib.hid how; have HROW := Lib.hid row
    have e0 : wr.cell? ⟨q10, 0, none⟩ = some (.slice (aa 0) ((C.drop A).take (i - A)).length (cc 0)) := row.cell 0
    have e1 : wr.cell? ⟨q10, 1, none⟩ = some (.slice (aa 1) ((C.drop A).take (i - A)).length (cc 1)) := row.cell 1
    have e2 : wr.cell? ⟨q10, 2, none⟩ = some (.slice (aa 2) (celV ((C.drop A).take (i - A))).length (cc 2)) := row.cell 2
    have h8q : ¬ (q8 = q10) := by omega
    have r8f := ((R8.out.below HB12.out).chg HCH.out (fun he => h8q he))
    have y0 : wr.cell? ⟨q8, 0, none⟩ = some (.slice none 0 0) := r8f.cell 0
    have y1 : wr.cell? ⟨q8, 1, none⟩ = some (.slice none 0 0) := r8f.cell 1
    have y2 : wr.cell? ⟨q8, 2, none⟩ = some (.slice none 0 0) := r8f.cell 2
    have qf := r8f.frozen
    have ql := r8f.lt
    generalize hLL : (C.drop A).take (i - A) = L at *
    have rz := Rw.set3 r8f (u0 := .slice (aa 0) L.length (cc 0)) (u1 := .slice (aa 1) L.length (cc 1)) (u2 := .slice (aa 2) (celV L).length (cc 2))
    have z0 := rz.cell 0; have z1 := rz.cell 1; have z2 := rz.cell 2
    clear how row r8f rz hoq hLL
    go_wp2_with fail
    refine bodyPost_ret (v := .agg #[.slice (aa 0) L.length (cc 0), .slice (aa 1) L.length (cc 1), .slice (aa 2) (celV L).length (cc 2)]) (by simp [results, Try.results27, go_sem, z0, z1, z2]) rfl ?_
    rw [HC.out]
    have hbF : Below w.heap.size w (((wr.setCell ⟨q8, 0, none⟩ (.slice (aa 0) L.length (cc 0))).setCell ⟨q8, 1, none⟩ (.slice (aa 1) L.length (cc 1))).setCell ⟨q8, 2, none⟩ (.slice (aa 2) (celV L).length (cc 2))) := bset3 (Chg.bt HBW2.out HCH.out (fun g hg he => by have he' : g = q10 := he; omega)) h8w
    have hcs := cset3 (Chg.refl (fun b => b = q8) wr) rfl (u0 := .slice (aa 0) L.length (cc 0)) (u1 := .slice (aa 1) L.length (cc 1)) (u2 := .slice (aa 2) (celV L).length (cc 2))
    have how2 := HOW.out.chg hcs (fun g hg _ he => by have he' : g = q8 := he; omega)
    have o0 : Own w2.heap.size _ 3 1 (aa 0) L.length (cc 0) (celR L) := how2.own 0 (by decide)
    have o1 : Own w2.heap.size _ 3 1 (aa 1) L.length (cc 1) (celD L) := how2.own 1 (by decide)
    have o2 : Own w2.heap.size _ 54 2 (aa 2) (celV L).length (cc 2) (vcs (celV L)) := how2.own 2 (by decide)
    have l0 : (clC L).r.length = L.length := by simp [clC]
    have l1 : (clC L).d.length = L.length := by simp [clC]
    refine ⟨aa 0, cc 0, aa 1, cc 1, aa 2, cc 2, by rw [l0, l1]; rfl, ⟨?_, ?_, ?_⟩, hbF⟩
    ·rw [l0, clC_r]; exact o0.sl.mono (fun b hb h => ⟨by have := h.1; omega, hb⟩) (by decide)
    ·rw [l1, clC_d]; exact o1.sl.mono (fun b hb h => ⟨by have := h.1; omega, hb⟩) (by decide)
    ·exact o2.sl.mono (fun b hb h => ⟨by have := h.1; omega, hb⟩) (by decide)
end Go.Proofs.Ytibhcibcfommeaa
