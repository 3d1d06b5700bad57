/-
 The walks of clones that are new all over, of shred.own.
-/
import Derived.Test.YtibhcibcfommeaaStr14
import Derived.Test.YtibhcibcfommeaaSch3
set_option linter.unusedSimpArgs false
namespace Go.Proofs.Ytibhcibcfommeaa
open Go.RowKit Go.Shr
section
variable {e : TypeId} {B size : Nat} {a : Option Addr} {n cap : Nat} {xs : List Value} {w : World}
theorem wpList_append0 {P : Program} {ops : Array Oper} {rest : List Oper} {o : Oper} {ac : Act} {Q : Exit → Act → World → Prop} (hgd : o.guard = none) (s x : Operand) (t tx : TypeId)
  (ho : o.op = .call { callee := .builtin .append, args := #[s, x], argTypes := #[t, tx] })
  (i : TypeInfo) (z : Value) (bytes : Nat) (ht : P.underlying t = some (.slice e)) (hi : P.info? e = some i) (hz : i.zero = some z) (hsize : i.size = size) (hby : i.bytes = bytes) (hzs : z.cells.size = size)
  (hsv : ac.eval s = .slice a n cap) (h : Own B w e size a n cap xs) (v : Value) (hxv : ac.eval x = v) (m : Nat) (news : List Value) (hs : Src P size tx v m news w) (h63 : n + m ≤ maxLen) (hbytes : (n + m) * bytes ≤ 140737488355328) (hB : B ≤ w.heap.size)
  (hK : ∀ a' cap' w', Own B w' e size a' (n + m) cap' (xs ++ news) → Chg (fun k => blk a k ∧ B ≤ k ∧ 0 < cap) w w' → (∀ k, blk a' k → blk a k ∨ w.heap.size ≤ k) → (n + m = 0 → w' = w ∧ a' = a ∧ cap' = cap) → wpList P ops Q rest (ac.put o.dst (.slice a' (n + m) cap')) w') : wpList P ops Q (o :: rest) ac w := by
 refine wpList_plain hgd fun K hKK => ?_
 obtain ⟨a', cap', w', hr, h2, h3, h4, h5⟩ := Go.Shr.run_append_own (P := P) t tx o.type i z bytes ht hi hz hsize hby hzs h v m news hs h63 hbytes hB
 unfold Oper.wp execOp
 simp only [ho, resolve, invoke, builtin, Sem.run_bind, Sem.run_pure, Result.andThen_ok, List.map_toArray, List.map_cons, List.map_nil, hsv, hxv, hr]
 exact hKK _ _ (hK a' cap' w' h2 h3 h4 h5)
end
/-- A row that is new all over. -/
structure New14 (w w' : World) (e : TypeId) (size : Nat) (a : Option Addr) (n cap : Nat) (xs : List Value) : Prop where
 own : Own w.heap.size w' e size a n cap xs
 new : ∀ g, blk a g → w.heap.size ≤ g ∧ g < w'.heap.size
theorem New14.below {w w' w'' : World} {e : TypeId} {size : Nat} {a : Option Addr} {n cap : Nat} {xs : List Value} (h : New14 w w' e size a n cap xs) (hb : Below w'.heap.size w' w'') : New14 w w'' e size a n cap xs :=
 ⟨h.own.below hb, fun g hg => by have := h.new g hg; have := hb.size; omega⟩
/-- Three rows that are new all over, in different blocks. -/
structure Three (w w' : World) (n m : Nat) (xR xD xV : List Value) (a0 : Option Addr) (c0 : Nat) (a1 : Option Addr) (c1 : Nat) (a2 : Option Addr) (c2 : Nat) : Prop where
 r0 : New14 w w' 3 1 a0 n c0 xR
 r1 : New14 w w' 3 1 a1 n c1 xD
 r2 : New14 w w' 54 2 a2 m c2 xV
 d01 : ∀ g, blk a0 g → ¬ blk a1 g
 d02 : ∀ g, blk a0 g → ¬ blk a2 g
 d12 : ∀ g, blk a1 g → ¬ blk a2 g
theorem New14.of {w v w' w'' : World} {b : Nat} {e : TypeId} {size : Nat} {a : Option Addr} {n cap : Nat} {xs : List Value} (h : New14 v w' e size a n cap xs) (hb : b < v.heap.size) (hw : w.heap.size ≤ v.heap.size) (hc : Chg (fun g => g = b) w' w'') : New14 w w'' e size a n cap xs :=
 ⟨(h.own.mono hw).chg hc (fun g hg e => by have := (h.new g hg).1; omega), fun g hg => by have := h.new g hg; have := hc.size; omega⟩
set_option maxHeartbeats 400000 in
theorem clone_i14 (ok : Nat → Prop) (a : Option Addr) (n cap : Nat) (xs : List Value) (w : World) (h : Sl ok w 1 a n cap xs) (hx : ∀ u ∈ xs, u.oneCell' = true) (hn : n ≤ 1000000) :
  Calls Try.prog 43 #[.slice a n cap] w fun e w' => ∃ a' cap', e = .returned (.slice a' n cap') ∧ New14 w w' 3 1 a' n cap' xs ∧ Below w.heap.size w w' := by
 have hnil := fun (w : World) => Lib.run_eql_slice_nil (P := Try.prog) w 22 3 a n cap 0 0 Try.underlying22
 obtain ⟨i0, hi, hz0, hz1, hz2⟩ := info_parts info_i
 rcases a with _ | a
 ·have h0 : n = 0 := by rcases h.row with h0 | ⟨_, _, h1, _⟩; exact h0; cases h1
  subst h0
  have hx0 : xs = [] := List.eq_nil_of_length_eq_zero (by simpa using h.len)
  subst hx0
  have H := Lib.hid h; clear h hx
  go_enter Try.func43, Try.ntmps43
  go_wp2
  go_ret
  exact ⟨none, 0, rfl, ⟨Own.nil _ _ _ _, fun g ⟨_, _, h⟩ => by cases h⟩, Below.refl _ _⟩
 ·have hs := (h.alloc (.cells #[] 3)).src (P := Try.prog) (tx := 22) Try.underlying22 hx
  have HS := Lib.hid hs; clear hs h hx
  go_enter Try.func43, Try.ntmps43
  go_wp2_with (at_builtin; refine wpList_append0 (B := w.heap.size) rfl _ _ _ _ rfl i0 (.int .i64 0) 8 Try.underlying22 hi hz0 hz1 hz2 rfl rfl (Own.bare _ _ _ _ _) _ rfl _ _ HS.out (by simp only [maxLen]; omega) (by omega) (by simp) ?_; intro a' cap' w' hown hchg hnew hnone)
  go_ret
  have hb : Below w.heap.size w w' := ((Below.refl _ _).alloc (Nat.le_refl _) _).trans (hchg.below (by simp) (fun i hi ⟨_, h2⟩ => by omega))
  refine ⟨a', cap', by simp, ⟨by simpa using hown, fun g hg => ?_⟩, hb⟩
  by_cases hn0 : n = 0
  ·obtain ⟨rfl, rfl, rfl⟩ := hnone (by omega)
   obtain ⟨o, s, e⟩ := hg
   cases e
   simp
  ·obtain ⟨g', rfl, h1, h2, _⟩ := hown.pos (by omega)
   obtain ⟨o, s, e⟩ := hg
   cases e
   exact ⟨h1, h2⟩
set_option maxHeartbeats 400000 in
theorem clone_v14 (ok : Nat → Prop) (a : Option Addr) (n cap : Nat) (xs : List Value) (w : World) (h : Sl ok w 2 a n cap xs) (hx : ∀ u ∈ xs, u.oneCell' = true) (hn : n ≤ 1000000) :
  Calls Try.prog 53 #[.slice a n cap] w fun e w' => ∃ a' cap', e = .returned (.slice a' n cap') ∧ New14 w w' 54 2 a' n cap' xs ∧ Below w.heap.size w w' := by
 have hnil := fun (w : World) => Lib.run_eql_slice_nil (P := Try.prog) w 44 54 a n cap 0 0 Try.underlying44
 obtain ⟨i0, hi, hz0, hz1, hz2⟩ := info_parts info_vl
 rcases a with _ | a
 ·have h0 : n = 0 := by rcases h.row with h0 | ⟨_, _, h1, _⟩; exact h0; cases h1
  subst h0
  have hx0 : xs = [] := List.eq_nil_of_length_eq_zero (by simpa using h.len)
  subst hx0
  have H := Lib.hid h; clear h hx
  go_enter Try.func53, Try.ntmps53
  go_wp2
  go_ret
  exact ⟨none, 0, rfl, ⟨Own.nil _ _ _ _, fun g ⟨_, _, h⟩ => by cases h⟩, Below.refl _ _⟩
 ·have hs := (h.alloc (.cells #[] 54)).src (P := Try.prog) (tx := 44) Try.underlying44 hx
  have HS := Lib.hid hs; clear hs h hx
  go_enter Try.func53, Try.ntmps53
  go_wp2_with (at_builtin; refine wpList_append0 (B := w.heap.size) rfl _ _ _ _ rfl i0 (.agg #[.int .i64 0, .string ByteArray.empty]) 24 Try.underlying44 hi hz0 hz1 hz2 rfl rfl (Own.bare _ _ _ _ _) _ rfl _ _ HS.out (by simp only [maxLen]; omega) (by omega) (by simp) ?_; intro a' cap' w' hown hchg hnew hnone)
  go_ret
  have hb : Below w.heap.size w w' := ((Below.refl _ _).alloc (Nat.le_refl _) _).trans (hchg.below (by simp) (fun i hi ⟨_, h2⟩ => by omega))
  refine ⟨a', cap', by simp, ⟨by simpa using hown, fun g hg => ?_⟩, hb⟩
  by_cases hn0 : n = 0
  ·obtain ⟨rfl, rfl, rfl⟩ := hnone (by omega)
   obtain ⟨o, s, e⟩ := hg
   cases e
   simp
  ·obtain ⟨g', rfl, h1, h2, _⟩ := hown.pos (by omega)
   obtain ⟨o, s, e⟩ := hg
   cases e
   exact ⟨h1, h2⟩

set_option maxHeartbeats 1000000 in
set_option maxRecDepth 100000 in
/-- A column of its own. -/
theorem own_v (ok : Nat → Prop) (aR aD aV : Option Addr) (n m cR cD cV : Nat) (xR xD xV : List Value) (w : World) (hR : Sl ok w 1 aR n cR xR) (hD : Sl ok w 1 aD n cD xD) (hV : Sl ok w 2 aV m cV xV)
  (oR : ∀ u ∈ xR, u.oneCell' = true) (oD : ∀ u ∈ xD, u.oneCell' = true) (oV : ∀ u ∈ xV, u.oneCell' = true) (hn : n ≤ 1000000) (hm : m ≤ 1000000) :
  Calls Try.prog 34 #[.agg #[.slice aR n cR, .slice aD n cD, .slice aV m cV]] w fun e w' => ∃ a0 c0 a1 c1 a2 c2, e = .returned (.agg #[.slice a0 n c0, .slice a1 n c1, .slice a2 m c2]) ∧ Below w.heap.size w w' ∧ Three w w' n m xR xD xV a0 c0 a1 c1 a2 c2 := by
 have HR := Lib.hid hR; have HD := Lib.hid hD; have HV := Lib.hid hV; have OR := Lib.hid oR; have OD := Lib.hid oD; have OV := Lib.hid oV
 clear hR hD hV oR oD oV
 go_enter Try.func34, Try.ntmps34
 go_wp2_with fail
 obtain ⟨wA, hwA⟩ : ∃ wA, wA = (w.alloc (.cells #[.slice aR n cR, .slice aD n cD, .slice aV m cV] 46)).alloc (.cells #[.slice none 0 0, .slice none 0 0, .slice none 0 0] 46) := ⟨_, rfl⟩
 have hbA : Below w.heap.size w wA := Go.Shr.Below.ren hwA (ba (ba (b0 w) _) _)
 have r1 := Rw.ren hwA ((Rw.new w #[.slice aR n cR, .slice aD n cD, .slice aV m cV] 46).alloc (.cells #[.slice none 0 0, .slice none 0 0, .slice none 0 0] 46))
 have r2 : Rw wA (w.heap.size + 1) #[.slice none 0 0, .slice none 0 0, .slice none 0 0] 46 := by rw [hwA]; exact Rw.new' (by simp)
 rw [← hwA]
 clear hwA
 have R2 := Lib.hid r2
 have HBA := Lib.hid hbA
 clear r2 hbA
 go_wp2_with fail
 refine wp_region_F (fun w' => Rw w' w.heap.size #[.slice aR n cR, .slice aD n cD, .slice aV m cV] 46) [10] (by kernel_rfl) ?g8rgS (fun hHeld => ?g8rgR)
 case g8rgS => (try dsimp only); (first | exact r1.drew | exact hHeld.below hb1 | exact hHeld.below hb2 | exact hHeld.below hb3)
 try dsimp only at hHeld
 refine wpAnyF_take 0 (oi := ⟨some 3, .fieldAddr 46 (.tmp 1) 0, 0, "shred.go:95", #[], none⟩) (v := ?g8rv1) rfl (by kernel_rfl) (fun _ _ _ h => h) (by assumption) (by rfl) ?g8ry1 ?g8rr1
 case g8ry1 => intro w hSw; (have q0 := hSw.cell 0); (have q1 := hSw.cell 1); (have q2 := hSw.cell 2); go_simp; try with_reducible rfl
 try simp only [Act.put, pA, pB, pC]
 refine wpAnyF_take 1 (oi := ⟨some 4, .load 22 (.tmp 3), 22, "shred.go:95", #[⟨0, .data⟩], none⟩) (v := ?g8rv2) rfl (by kernel_rfl) (fun _ _ _ h => h) (by assumption) (by rfl) ?g8ry2 ?g8rr2
 case g8ry2 => intro w hSw; (have q0 := hSw.cell 0); (have q1 := hSw.cell 1); (have q2 := hSw.cell 2); go_simp; try with_reducible rfl
 try simp only [Act.put, pA, pB, pC]
 refine wpAnyF_take 3 (oi := ⟨some 6, .fieldAddr 46 (.tmp 1) 1, 0, "shred.go:95", #[], none⟩) (v := ?g8rv3) rfl (by kernel_rfl) (fun _ _ _ h => h) (by assumption) (by rfl) ?g8ry3 ?g8rr3
 case g8ry3 => intro w hSw; (have q0 := hSw.cell 0); (have q1 := hSw.cell 1); (have q2 := hSw.cell 2); go_simp; try with_reducible rfl
 try simp only [Act.put, pA, pB, pC]
 refine wpAnyF_take 4 (oi := ⟨some 7, .load 22 (.tmp 6), 22, "shred.go:95", #[⟨3, .data⟩], none⟩) (v := ?g8rv4) rfl (by kernel_rfl) (fun _ _ _ h => h) (by assumption) (by rfl) ?g8ry4 ?g8rr4
 case g8ry4 => intro w hSw; (have q0 := hSw.cell 0); (have q1 := hSw.cell 1); (have q2 := hSw.cell 2); go_simp; try with_reducible rfl
 try simp only [Act.put, pA, pB, pC]
 refine wpAnyF_take 6 (oi := ⟨some 9, .fieldAddr 46 (.tmp 1) 2, 0, "shred.go:95", #[], none⟩) (v := ?g8rv5) rfl (by kernel_rfl) (fun _ _ _ h => h) (by assumption) (by rfl) ?g8ry5 ?g8rr5
 case g8ry5 => intro w hSw; (have q0 := hSw.cell 0); (have q1 := hSw.cell 1); (have q2 := hSw.cell 2); go_simp; try with_reducible rfl
 try simp only [Act.put, pA, pB, pC]
 refine wpAnyF_take 7 (oi := ⟨some 10, .load 44 (.tmp 9), 44, "shred.go:95", #[⟨6, .data⟩], none⟩) (v := ?g8rv6) rfl (by kernel_rfl) (fun _ _ _ h => h) (by assumption) (by rfl) ?g8ry6 ?g8rr6
 case g8ry6 => intro w hSw; (have q0 := hSw.cell 0); (have q1 := hSw.cell 1); (have q2 := hSw.cell 2); go_simp; try with_reducible rfl
 try simp only [Act.put, pA, pB, pC]
 refine wpAnyF_ready [2] (by kernel_rfl) (by simp) ?_
 refine AllReadyF.cons 2 (o := ⟨some 5, .call { callee := .value (.func 43), args := #[.tmp 4], argTypes := #[22] }, 22, "shred.go:95", #[⟨1, .data⟩], none⟩) rfl (fun K hK => ?g8ro7) ?g8rm7
 case g8rm7 => exact AllReadyF.nil
 go_simp; refine (clone_i14 ok aR n cR xR _ (HR.out.below (HBA.out.drew)) OR.out hn).mono ?_; rintro e u1 ⟨a0, c0, rfl, n0, hb1⟩; (have HB1 := Lib.hid (bt HBA.out.drew hb1)); dsimp only
 refine hK.out _ _ ?g8rs7 (fun hHeld => ?g8rt7)
 case g8rs7 => (try dsimp only); (first | exact r1.drew | exact hHeld.below hb1 | exact hHeld.below hb2 | exact hHeld.below hb3)
 try dsimp only at hHeld
 clear hK K
 try simp only [Act.put, pA, pB, pC]
 refine wpAnyF_ready [5] (by kernel_rfl) (by simp) ?_
 refine AllReadyF.cons 5 (o := ⟨some 8, .call { callee := .value (.func 43), args := #[.tmp 7], argTypes := #[22] }, 22, "shred.go:95", #[⟨4, .data⟩, ⟨2, .chain⟩], none⟩) rfl (fun K hK => ?g8ro8) ?g8rm8
 case g8rm8 => exact AllReadyF.nil
 go_simp; refine (clone_i14 ok aD n cD xD _ (HD.out.below HB1.out) OD.out hn).mono ?_; rintro e u2 ⟨a1, c1, rfl, n1, hb2⟩; (have HB2 := Lib.hid (bt HB1.out hb2)); dsimp only
 refine hK.out _ _ ?g8rs8 (fun hHeld => ?g8rt8)
 case g8rs8 => (try dsimp only); (first | exact r1.drew | exact hHeld.below hb1 | exact hHeld.below hb2 | exact hHeld.below hb3)
 try dsimp only at hHeld
 clear hK K
 try simp only [Act.put, pA, pB, pC]
 refine wpAnyF_ready [8] (by kernel_rfl) (by simp) ?_
 refine AllReadyF.cons 8 (o := ⟨some 11, .call { callee := .value (.func 53), args := #[.tmp 10], argTypes := #[44] }, 44, "shred.go:95", #[⟨7, .data⟩, ⟨5, .chain⟩], none⟩) rfl (fun K hK => ?g8ro9) ?g8rm9
 case g8rm9 => exact AllReadyF.nil
 go_simp; refine (clone_v14 ok aV m cV xV _ (HV.out.below HB2.out) OV.out hm).mono ?_; rintro e u3 ⟨a2, c2, rfl, n2, hb3⟩; (have HB3 := Lib.hid (bt HB2.out hb3)); dsimp only
 refine hK.out _ _ ?g8rs9 (fun hHeld => ?g8rt9)
 case g8rs9 => (try dsimp only); (first | exact r1.drew | exact hHeld.below hb1 | exact hHeld.below hb2 | exact hHeld.below hb3)
 try dsimp only at hHeld
 clear hK K
 try simp only [Act.put, pA, pB, pC]
 refine wpAnyF_take 9 (oi := ⟨some 12, .build 46 #[(0, .tmp 5), (1, .tmp 8), (2, .tmp 11)], 46, "shred.go:95", #[⟨2, .data⟩, ⟨5, .data⟩, ⟨8, .data⟩], none⟩) (v := ?g8rv10) rfl (by kernel_rfl) (fun _ _ _ h => h) (by assumption) (by rfl) ?g8ry10 ?g8rr10
 case g8ry10 => intro w hSw; (have q0 := hSw.cell 0); (have q1 := hSw.cell 1); (have q2 := hSw.cell 2); go_simp; try with_reducible rfl
 try simp only [Act.put, pA, pB, pC]
 refine wpAnyF_ready [10] (by kernel_rfl) (by simp) ?_
 refine AllReadyF.last 10 (o := ⟨none, .store 46 (.tmp 2) (.tmp 12), 0, "shred.go:95", #[⟨9, .data⟩, ⟨8, .chain⟩, ⟨0, .phase⟩, ⟨1, .phase⟩, ⟨2, .phase⟩, ⟨3, .phase⟩, ⟨4, .phase⟩, ⟨5, .phase⟩, ⟨6, .phase⟩, ⟨7, .phase⟩, ⟨8, .phase⟩, ⟨9, .phase⟩], none⟩) rfl (by kernel_rfl) (fun K hK => ?g8ro11) ?g8rm11
 case g8rm11 => exact AllReadyF.nil
 (have r2 := R2.out.below (bt (bt (bt (b0 wA).drew hb1) hb2) hb3)); (have p0 := r2.cell 0); (have p1 := r2.cell 1); (have p2 := r2.cell 2); (have pf := r2.frozen); (have pl := r2.lt); go_simp
 refine hK.out _ _ ?_
 clear hK K
 try simp only [Act.put, pA, pB, pC]
 refine wpAnyF_done (by kernel_rfl) ?_
 clear hHeld p0 p1 p2
 have rZ := ((r2.set 0 (.slice a0 n c0)).set 1 (.slice a1 n c1)).set 2 (.slice a2 m c2)
 have z0 := rZ.cell 0; have z1 := rZ.cell 1; have z2 := rZ.cell 2
 have hgA : w.heap.size + 1 < wA.heap.size := R2.out.lt
 go_wp2_with fail
 refine bodyPost_ret (v := .agg #[.slice a0 n c0, .slice a1 n c1, .slice a2 m c2]) (by simp [results, Try.results34, go_sem, z0, z1, z2]) rfl ?_
 have hch : Chg (fun g => g = w.heap.size + 1) u3 (((u3.setCell ⟨w.heap.size + 1, 0, none⟩ (.slice a0 n c0)).setCell ⟨w.heap.size + 1, 1, none⟩ (.slice a1 n c1)).setCell ⟨w.heap.size + 1, 2, none⟩ (.slice a2 m c2)) := (((Chg.refl (fun g => g = w.heap.size + 1) u3).setCell (p := ⟨w.heap.size + 1, 0, none⟩) (.inr rfl) _).setCell (p := ⟨w.heap.size + 1, 1, none⟩) (.inr rfl) _).setCell (p := ⟨w.heap.size + 1, 2, none⟩) (.inr rfl) _
 have s0 : wA.drew.heap.size = wA.heap.size := rfl
 have s1 := hb1.size; have s2 := hb2.size; have s3 := hb3.size
 refine ⟨a0, c0, a1, c1, a2, c2, rfl, Chg.bt HB3.out hch (fun g hg h => by have h' : g = w.heap.size + 1 := h; omega), ⟨((n0.below hb2).below hb3).of (by omega) (by omega) hch, (n1.below hb3).of (by omega) (by omega) hch, n2.of (by omega) (by omega) hch, fun g h h' => ?_, fun g h h' => ?_, fun g h h' => ?_⟩⟩
 ·have := n0.new g h; have := n1.new g h'; omega
 ·have := n0.new g h; have := n2.new g h'; omega
 ·have := n1.new g h; have := n2.new g h'; omega
section
variable {B : Nat} {w w' : World} {N : Nat} {ty : Nat → TypeId} {sz : Nat → Nat} {aa : Nat → Option Addr} {n cc : Nat → Nat} {X : Nat → List Value}
end

end Go.Proofs.Ytibhcibcfommeaa
