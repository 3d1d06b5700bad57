/-
 The walks of the fitter's value, of Fits.
-/
import Derived.Test.YtibhcibcfommeaaTree2
set_option linter.unusedSimpArgs false
namespace Go.Proofs.Ytibhcibcfommeaa
open Go.RowKit Go.Shr
set_option maxHeartbeats 4000000 in
set_option maxRecDepth 100000 in
theorem value_step (N : Nat) (l : List Fl) (hw : Wf l) (hA : AllTo N l) : ValueTo (N + 1) l := by
 intro t ht i hi a cap b3 w hf hT
 obtain ⟨sa, n, scap, bk, hn, r3, hsl, hk⟩ := id hf
 obtain ⟨sb, soff, rfl, hsb, hsc⟩ := hsl.pos (by omega)
 obtain ⟨_, _, f2, _⟩ := fls_get l i hi
 replace f2 := hsc _ _ f2
 rw [← Nat.add_assoc] at f2
 have q0 : w.cell? ⟨b3, 0, none⟩ = some (.slice (some ⟨sb, soff, none⟩) n scap) := r3.cell 0
 have q1 : w.cell? ⟨b3, 1, none⟩ = some (.slice (some ⟨bk, 0, none⟩) n n) := r3.cell 1
 obtain ⟨ak, ck, hk1, hk2⟩ := hk i (by omega)
 have hl3 := r3.lt
 have hlk : bk < w.heap.size := World.block_lt_of_cell? w ⟨bk, i, none⟩ hk1
 have HFl : Hid (flAt l i = l[i]) := Lib.hid (by simp [flAt, hi])
 have hkd := hw.kind l[i] (List.getElem_mem hi)
 have HR : Hid (fitT l (KF l) t i = if l[i].kind ≠ 0 then leafT l[i].kind t else if t.n ≠ 0 ∨ t.s.toList ≠ [] ∨ t.kids.length ≠ (KF l i).length then 13 else fitK l (KF l) t.kids (KF l i)) := Lib.hid (by rw [fitT_eq, HFl.out])
 generalize l[i].kind = kd at *
 have HF := Lib.hid hf; have HT := Lib.hid hT; have HAA := Lib.hid hA
 subst hn
 clear hsc hsl hk r3 hf hA
 by_cases hkz : kd = 0
 ·subst hkz
  have HR2 : Hid (fitT l (KF l) t i = if t.n ≠ 0 ∨ t.s.toList ≠ [] ∨ t.kids.length ≠ (KF l i).length then 13 else fitK l (KF l) t.kids (KF l i)) := Lib.hid (by rw [HR.out, if_neg (fun h => h rfl)])
  clear HR
  change w.cell? ⟨bk, i, none⟩ = some (.slice ak (KF l i).length ck) at hk1
  change Sl _ w 1 ak (KF l i).length ck (ints (KF l i)) at hk2
  generalize hjs : KF l i = js at *
  have HJ : Hid (∀ z ∈ js, 0 ≤ z ∧ z < l.length) := Lib.hid (by
   intro z hz; rw [← hjs] at hz
   have := kidsOf_mem hz; rw [par_length] at this; omega)
  have HK2 := Lib.hid hk2; clear hk2 hjs
  by_cases hn0 : t.n = 0
  ·by_cases hs0 : t.s.toList = []
   ·by_cases hm : t.kids.length = js.length
    ·have HRX : Hid (fitT l (KF l) t i = fitK l (KF l) (t.kids.drop 0) (js.drop 0)) := Lib.hid (by rw [HR2.out, if_neg (by rintro (h | h | h); exact h hn0; exact h hs0; exact h hm)]; rfl)
     have hnb : (t.n != 0) = false := by simp [hn0]
     have hsb' : (!t.s.toList.isEmpty) = false := by rw [hs0]; rfl
     have hmb : ((t.kids.length : Int) != (js.length : Int)) = false := by simp [hm]
     obtain ⟨ta, tm, tcap, txs, hcs, htm, hts, htsl, htk⟩ := HT.out.parts
     simp at hcs
     obtain ⟨rfl, rfl, rfl⟩ := hcs
     have hmx := Nat.le_trans htsl.le htsl.max
     unfold maxLen at hmx
     have HSL := Lib.hid htsl; have HTK := Lib.hid htk; have HM := Lib.hid hm
     clear HR2 hn0 hs0 hm htsl htk
     go_enter Try.func50, Try.ntmps50
     go_wp2_with fail
     go_loopw [56] (fun k wr => ∃ j : Nat, k = .int .i64 j ∧ j ≤ t.kids.length ∧ Hid (fitT l (KF l) t i = fitK l (KF l) (t.kids.drop j) (js.drop j)) ∧ Hid (Below w.heap.size w wr)) (fun k _ => t.kids.length - (intOf k).toNat)
     case atStart => exact ⟨0, rfl, Nat.zero_le _, HRX, Lib.hid (ba (b0 w) _)⟩
     case round =>
      obtain ⟨j, rfl, hj, HE, HB⟩ := hrel
      by_cases hlj : j < t.kids.length
      ·have hjs : j < js.length := by have := HM.out; omega
       obtain ⟨tb, toff, rfl, htb, htc⟩ := HSL.out.pos (by omega)
       obtain ⟨xa, xcap, ys, g0, hxs, hxr⟩ := HTK.out.get j hlj
       replace g0 := cb HB.out (htc _ _ g0)
       obtain ⟨jb, joff, rfl, hjb, hjc⟩ := HK2.out.pos (by omega)
       have g1 := cb HB.out (hjc _ _ (ints_get js j hjs))
       have HNX := Lib.hid (fitK_drop l (KF l) t.kids js j hlj hjs)
       have hszk : ∀ y ∈ t.kids[j], y.size < N := fun y hy => by have := kid_size (List.getElem_mem hlj) hy; omega
       have hjn := HJ.out js[j] (List.getElem_mem hjs)
       generalize t.kids[j] = x at *
       obtain ⟨jn, hjne⟩ : ∃ jn : Nat, js[j] = (jn : Int) := ⟨js[j].toNat, by omega⟩
       rw [hjne] at g1 hjn HNX
       have hjn2 : jn < l.length := by omega
       have HXS := Lib.hid hxs; have HXR := Lib.hid hxr; have HSZ := Lib.hid hszk
       clear htc hjc hxs hxr hszk hjne hjn
       go_wp2_with fail
       refine (HAA.out x HSZ.out jn hjn2 xa xcap ys b3 _ (HF.out.below HB.out) (slb HXS.out HB.out) (RowAt.below HB.out _ _ HXR.out)).mono ?_
       rintro e w2 ⟨rfl, hb3⟩
       have HB2 := Lib.hid (bt HB.out hb3)
       clear hb3
       generalize fitA l (KF l) x jn = ft at *
       by_cases hz : ft = 0
       ·have HN2 : Hid (fitT l (KF l) t i = fitK l (KF l) (t.kids.drop (j + 1)) (js.drop (j + 1))) := Lib.hid (by rw [HE.out, HNX.out, if_neg (fun h => h hz)])
        have hzb : (ft == 0) = true := beq_iff_eq.2 hz
        clear HNX
        subst hz
        go_wp2_with fail
        go_roundw
        case rel => exact ⟨j + 1, by go_num, by omega, HN2, HB2⟩
        case measure => simp [intOf]; omega
       ·have HN2 : Hid (fitT l (KF l) t i = ft) := Lib.hid (by rw [HE.out, HNX.out, if_pos hz])
        have hzb : (ft == 0) = false := beq_eq_false_iff_ne.2 hz
        have hzb2 : (ft != 0) = true := by simp [hz]
        clear HNX hz
        go_wp2_with fail
        go_ret
        exact ⟨ret_i HN2.out.symm, HB2.out⟩
      ·obtain rfl : j = t.kids.length := by omega
       have HN2 : Hid (fitT l (KF l) t i = 0) := Lib.hid (by rw [HE.out, List.drop_length]; rfl)
       clear hlj
       go_wp2_with fail
       go_ret
       exact ⟨ret_i HN2.out.symm, HB.out⟩
    ·have H13 : Hid (fitT l (KF l) t i = 13) := Lib.hid (by rw [HR2.out, if_pos (.inr (.inr hm))])
     have hnb : (t.n != 0) = false := by simp [hn0]
     have hsb' : (!t.s.toList.isEmpty) = false := by rw [hs0]; rfl
     have hmb : ((t.kids.length : Int) != (js.length : Int)) = true := by simp; omega
     have hmc : ((t.kids.length : Int) == (js.length : Int)) = false := beq_eq_false_iff_ne.2 (by omega)
     clear HR2 hn0 hs0 hm
     go_enter Try.func50, Try.ntmps50
     go_wp2_with fail
     go_ret
     exact ⟨ret_i H13.out.symm, ba (b0 w) _⟩
   ·have H13 : Hid (fitT l (KF l) t i = 13) := Lib.hid (by rw [HR2.out, if_pos (.inr (.inl hs0))])
    have hnb : (t.n != 0) = false := by simp [hn0]
    have hsb' : (!t.s.toList.isEmpty) = true := by cases h : t.s.toList with | nil => exact absurd h hs0 | cons => rfl
    clear HR2 hn0 hs0
    go_enter Try.func50, Try.ntmps50
    go_wp2_with fail
    go_ret
    exact ⟨ret_i H13.out.symm, ba (b0 w) _⟩
  ·have H13 : Hid (fitT l (KF l) t i = 13) := Lib.hid (by rw [HR2.out, if_pos (.inl hn0)])
   have hnb : (t.n != 0) = true := by simp [hn0]
   have hnc : (t.n == 0) = false := beq_eq_false_iff_ne.2 hn0
   clear HR2 hn0
   go_enter Try.func50, Try.ntmps50
   go_wp2_with fail
   go_ret
   exact ⟨ret_i H13.out.symm, ba (b0 w) _⟩
 ·have hkb : (kd == 0) = false := beq_eq_false_iff_ne.2 hkz
  have hkb2 : (kd != 0) = true := by simp [hkz]
  have hlf := fun w' => leaf_v kd t a t.kids.length cap rfl w' (by omega) (by omega)
  have HR2 : Hid (fitT l (KF l) t i = leafT kd t) := Lib.hid (by rw [HR.out, if_pos hkz])
  have HLF := Lib.hid hlf
  clear HR hlf hkz hk1 hk2
  go_enter Try.func50, Try.ntmps50
  go_wp2_with fail
  have hbx := ba (b0 w) (.cells #[.int .i64 t.n, .string t.s, .slice a t.kids.length cap] 29)
  have r5 := Rw.new w #[.int .i64 t.n, .string t.s, .slice a t.kids.length cap] 29
  generalize hwx : w.alloc (.cells #[.int .i64 t.n, .string t.s, .slice a t.kids.length cap] 29) = wx at hbx r5 ⊢
  have p0 := cb hbx q0
  have p1 := cb hbx f2
  clear hwx
  refine wp_region_F (fun w' => w'.cell? ⟨b3, 0, none⟩ = some (.slice (some ⟨sb, soff, none⟩) l.length scap) ∧ w'.cell? ⟨sb, soff + i * 4 + 2, none⟩ = some (.int .i64 kd) ∧ Rw w' w.heap.size #[.int .i64 t.n, .string t.s, .slice a t.kids.length cap] 29) [10] (by kernel_rfl) ?g16rgS (fun hHeld => ?g16rgR)
  case g16rgS => (try dsimp only); (first | exact ⟨p0, p1, r5.drew⟩ | exact ⟨cb hb9 hHeld.1, cb hb9 hHeld.2.1, hHeld.2.2.below hb9⟩)
  try dsimp only at hHeld
  refine wpAnyF_take 0 (oi := ⟨some 20, .move (.tmp 0), 91, "tree.go:70", #[], none⟩) (v := ?g16rv1) rfl (by kernel_rfl) (fun _ _ _ h => h) (by assumption) (by rfl) ?g16ry1 ?g16rr1
  case g16ry1 => intro wS hSw; (obtain ⟨g1, g2, g3⟩ := hSw); (have z0 : wS.cell? ⟨w.heap.size, 0, none⟩ = some (.int .i64 t.n) := g3.cell 0); (have z1 : wS.cell? ⟨w.heap.size, 1, none⟩ = some (.string t.s) := g3.cell 1); (have z2 : wS.cell? ⟨w.heap.size, 2, none⟩ = some (.slice a t.kids.length cap) := g3.cell 2); go_simp; try with_reducible rfl
  try simp only [Act.put, pA, pB, pC]
  refine wpAnyF_take 1 (oi := ⟨some 21, .nilCheck (.tmp 20), 0, "tree.go:70", #[⟨0, .data⟩], none⟩) (v := ?g16rv2) rfl (by kernel_rfl) (fun _ _ _ h => h) (by assumption) (by rfl) ?g16ry2 ?g16rr2
  case g16ry2 => intro wS hSw; (obtain ⟨g1, g2, g3⟩ := hSw); (have z0 : wS.cell? ⟨w.heap.size, 0, none⟩ = some (.int .i64 t.n) := g3.cell 0); (have z1 : wS.cell? ⟨w.heap.size, 1, none⟩ = some (.string t.s) := g3.cell 1); (have z2 : wS.cell? ⟨w.heap.size, 2, none⟩ = some (.slice a t.kids.length cap) := g3.cell 2); go_simp; try with_reducible rfl
  try simp only [Act.put, pA, pB, pC]
  refine wpAnyF_take 2 (oi := ⟨some 22, .fieldAddr 107 (.tmp 21) 0, 0, "tree.go:70", #[⟨1, .data⟩], none⟩) (v := ?g16rv3) rfl (by kernel_rfl) (fun _ _ _ h => h) (by assumption) (by rfl) ?g16ry3 ?g16rr3
  case g16ry3 => intro wS hSw; (obtain ⟨g1, g2, g3⟩ := hSw); (have z0 : wS.cell? ⟨w.heap.size, 0, none⟩ = some (.int .i64 t.n) := g3.cell 0); (have z1 : wS.cell? ⟨w.heap.size, 1, none⟩ = some (.string t.s) := g3.cell 1); (have z2 : wS.cell? ⟨w.heap.size, 2, none⟩ = some (.slice a t.kids.length cap) := g3.cell 2); go_simp; try with_reducible rfl
  try simp only [Act.put, pA, pB, pC]
  refine wpAnyF_take 3 (oi := ⟨some 23, .load 31 (.tmp 22), 31, "tree.go:70", #[⟨2, .data⟩], none⟩) (v := ?g16rv4) rfl (by kernel_rfl) (fun _ _ _ h => h) (by assumption) (by rfl) ?g16ry4 ?g16rr4
  case g16ry4 => intro wS hSw; (obtain ⟨g1, g2, g3⟩ := hSw); (have z0 : wS.cell? ⟨w.heap.size, 0, none⟩ = some (.int .i64 t.n) := g3.cell 0); (have z1 : wS.cell? ⟨w.heap.size, 1, none⟩ = some (.string t.s) := g3.cell 1); (have z2 : wS.cell? ⟨w.heap.size, 2, none⟩ = some (.slice a t.kids.length cap) := g3.cell 2); go_simp; try with_reducible rfl
  try simp only [Act.put, pA, pB, pC]
  refine wpAnyF_take 4 (oi := ⟨some 24, .move (.tmp 1), 3, "tree.go:70", #[], none⟩) (v := ?g16rv5) rfl (by kernel_rfl) (fun _ _ _ h => h) (by assumption) (by rfl) ?g16ry5 ?g16rr5
  case g16ry5 => intro wS hSw; (obtain ⟨g1, g2, g3⟩ := hSw); (have z0 : wS.cell? ⟨w.heap.size, 0, none⟩ = some (.int .i64 t.n) := g3.cell 0); (have z1 : wS.cell? ⟨w.heap.size, 1, none⟩ = some (.string t.s) := g3.cell 1); (have z2 : wS.cell? ⟨w.heap.size, 2, none⟩ = some (.slice a t.kids.length cap) := g3.cell 2); go_simp; try with_reducible rfl
  try simp only [Act.put, pA, pB, pC]
  refine wpAnyF_take 5 (oi := ⟨some 25, .indexAddr 31 (.tmp 23) (.tmp 24), 0, "tree.go:70", #[⟨3, .data⟩, ⟨4, .data⟩], none⟩) (v := ?g16rv6) rfl (by kernel_rfl) (fun _ _ _ h => h) (by assumption) (by rfl) ?g16ry6 ?g16rr6
  case g16ry6 => intro wS hSw; (obtain ⟨g1, g2, g3⟩ := hSw); (have z0 : wS.cell? ⟨w.heap.size, 0, none⟩ = some (.int .i64 t.n) := g3.cell 0); (have z1 : wS.cell? ⟨w.heap.size, 1, none⟩ = some (.string t.s) := g3.cell 1); (have z2 : wS.cell? ⟨w.heap.size, 2, none⟩ = some (.slice a t.kids.length cap) := g3.cell 2); go_simp; try with_reducible rfl
  try simp only [Act.put, pA, pB, pC]
  refine wpAnyF_take 6 (oi := ⟨some 26, .fieldAddr 51 (.tmp 25) 2, 0, "tree.go:70", #[⟨5, .data⟩], none⟩) (v := ?g16rv7) rfl (by kernel_rfl) (fun _ _ _ h => h) (by assumption) (by rfl) ?g16ry7 ?g16rr7
  case g16ry7 => intro wS hSw; (obtain ⟨g1, g2, g3⟩ := hSw); (have z0 : wS.cell? ⟨w.heap.size, 0, none⟩ = some (.int .i64 t.n) := g3.cell 0); (have z1 : wS.cell? ⟨w.heap.size, 1, none⟩ = some (.string t.s) := g3.cell 1); (have z2 : wS.cell? ⟨w.heap.size, 2, none⟩ = some (.slice a t.kids.length cap) := g3.cell 2); go_simp; try with_reducible rfl
  try simp only [Act.put, pA, pB, pC]
  refine wpAnyF_take 7 (oi := ⟨some 27, .load 3 (.tmp 26), 3, "tree.go:70", #[⟨6, .data⟩], none⟩) (v := ?g16rv8) rfl (by kernel_rfl) (fun _ _ _ h => h) (by assumption) (by rfl) ?g16ry8 ?g16rr8
  case g16ry8 => intro wS hSw; (obtain ⟨g1, g2, g3⟩ := hSw); (have z0 : wS.cell? ⟨w.heap.size, 0, none⟩ = some (.int .i64 t.n) := g3.cell 0); (have z1 : wS.cell? ⟨w.heap.size, 1, none⟩ = some (.string t.s) := g3.cell 1); (have z2 : wS.cell? ⟨w.heap.size, 2, none⟩ = some (.slice a t.kids.length cap) := g3.cell 2); go_simp; try with_reducible rfl
  try simp only [Act.put, pA, pB, pC]
  refine wpAnyF_take 8 (oi := ⟨some 28, .load 29 (.tmp 5), 29, "tree.go:70", #[], none⟩) (v := ?g16rv9) rfl (by kernel_rfl) (fun _ _ _ h => h) (by assumption) (by rfl) ?g16ry9 ?g16rr9
  case g16ry9 => intro wS hSw; (obtain ⟨g1, g2, g3⟩ := hSw); (have z0 : wS.cell? ⟨w.heap.size, 0, none⟩ = some (.int .i64 t.n) := g3.cell 0); (have z1 : wS.cell? ⟨w.heap.size, 1, none⟩ = some (.string t.s) := g3.cell 1); (have z2 : wS.cell? ⟨w.heap.size, 2, none⟩ = some (.slice a t.kids.length cap) := g3.cell 2); go_simp; try with_reducible rfl
  try simp only [Act.put, pA, pB, pC]
  refine wpAnyF_ready [9] (by kernel_rfl) (by simp) ?_
  refine AllReadyF.cons 9 (o := ⟨some 29, .call { callee := .value (.func 63), args := #[.tmp 27, .tmp 28], argTypes := #[3, 29] }, 35, "tree.go:70", #[⟨7, .data⟩, ⟨8, .data⟩], none⟩) rfl (fun K hK => ?g16ro10) ?g16rm10
  case g16rm10 => exact AllReadyF.nil
  go_simp; refine (HLF.out _).mono ?_; rintro e w9 ⟨rfl, hb9⟩; dsimp only
  refine hK.out _ _ ?g16rs10 (fun hHeld => ?g16rt10)
  case g16rs10 => (try dsimp only); (first | exact ⟨p0, p1, r5.drew⟩ | exact ⟨cb hb9 hHeld.1, cb hb9 hHeld.2.1, hHeld.2.2.below hb9⟩)
  try dsimp only at hHeld
  clear hK K
  try simp only [Act.put, pA, pB, pC]
  refine wpAnyF_ready [10] (by kernel_rfl) (by simp) ?_
  refine AllReadyF.last 10 (o := ⟨some 6, .assign (.tmp 29), 35, "tree.go:70", #[⟨9, .data⟩, ⟨9, .chain⟩, ⟨0, .phase⟩, ⟨1, .phase⟩, ⟨2, .phase⟩, ⟨3, .phase⟩, ⟨4, .phase⟩, ⟨5, .phase⟩, ⟨6, .phase⟩, ⟨7, .phase⟩, ⟨8, .phase⟩, ⟨9, .phase⟩], none⟩) rfl (by kernel_rfl) (fun K hK => ?g16ro11) ?g16rm11
  case g16rm11 => exact AllReadyF.nil
  go_simp
  refine hK.out _ _ ?_
  clear hK K
  try simp only [Act.put, pA, pB, pC]
  refine wpAnyF_done (by kernel_rfl) ?_
  go_wp2_with fail
  go_ret
  exact ⟨ret_i HR2.out.symm, bt hbx.drew hb9⟩
theorem all_to (l : List Fl) (hw : Wf l) : ∀ N, ValueTo N l
 | 0 => fun _ h => absurd h (Nat.not_lt_zero _)
 | N + 1 => value_step N l hw (all_step N l hw (all_to l hw N))
/-- The walk of tree.Fits. -/
theorem Fits_v (l : List Fl) (hw : Wf l) (t : Tr) (sa : Option Addr) (sn scap : Nat) (a : Option Addr) (cap : Nat) (w : World) (hs : Sl (fun b => b < w.heap.size) w 4 sa sn scap (fls l)) (hT : TrAt w t [.int .i64 t.n, .string t.s, .slice a t.kids.length cap]) :
  Calls Try.prog 32 #[.slice sa sn scap, .agg #[.int .i64 t.n, .string t.s, .slice a t.kids.length cap]] w fun e w' => e = .returned (.int .i64 (fitT l (KF l) t 0)) ∧ Below w.heap.size w w' := by
 have hlen : l.length = sn := by have := hs.len; rw [fls_length] at this; omega
 have hw1 := hw.len; have hw2 := hw.pos
 have hnz : ((sn : Int) == 0) = false := beq_eq_false_iff_ne.2 (by omega)
 have HS := Lib.hid hs; have HT := Lib.hid hT; clear hs hT
 go_enter Try.func32, Try.ntmps32
 go_wp2_with fail
 have hbx := ba (b0 w) (.cells #[.int .i64 t.n, .string t.s, .slice a t.kids.length cap] 29)
 have r3 := Rw.new w #[.int .i64 t.n, .string t.s, .slice a t.kids.length cap] 29
 generalize w.alloc (.cells #[.int .i64 t.n, .string t.s, .slice a t.kids.length cap] 29) = wx at hbx r3 ⊢
 have HBX := Lib.hid hbx
 refine wp_region_F (fun w' => Rw w' w.heap.size #[.int .i64 t.n, .string t.s, .slice a t.kids.length cap] 29) [4] (by kernel_rfl) ?g17rgS (fun hHeld => ?g17rgR)
 case g17rgS => (try dsimp only); (first | exact r3.drew | exact hHeld.below hb1 | exact hHeld.below hb3)
 try dsimp only at hHeld
 refine wpAnyF_take 0 (oi := ⟨some 8, .move (.tmp 0), 31, "tree.go:108", #[], none⟩) (v := ?g17rv1) rfl (by kernel_rfl) (fun _ _ _ h => h) (by assumption) (by rfl) ?g17ry1 ?g17rr1
 case g17ry1 => intro wS hSw; (have z0 : wS.cell? ⟨w.heap.size, 0, none⟩ = some (.int .i64 t.n) := hSw.cell 0); (have z1 : wS.cell? ⟨w.heap.size, 1, none⟩ = some (.string t.s) := hSw.cell 1); (have z2 : wS.cell? ⟨w.heap.size, 2, none⟩ = some (.slice a t.kids.length cap) := hSw.cell 2); go_simp; try with_reducible rfl
 try simp only [Act.put, pA, pB, pC]
 refine wpAnyF_take 2 (oi := ⟨some 10, .load 29 (.tmp 3), 29, "tree.go:108", #[], none⟩) (v := ?g17rv2) rfl (by kernel_rfl) (fun _ _ _ h => h) (by assumption) (by rfl) ?g17ry2 ?g17rr2
 case g17ry2 => intro wS hSw; (have z0 : wS.cell? ⟨w.heap.size, 0, none⟩ = some (.int .i64 t.n) := hSw.cell 0); (have z1 : wS.cell? ⟨w.heap.size, 1, none⟩ = some (.string t.s) := hSw.cell 1); (have z2 : wS.cell? ⟨w.heap.size, 2, none⟩ = some (.slice a t.kids.length cap) := hSw.cell 2); go_simp; try with_reducible rfl
 try simp only [Act.put, pA, pB, pC]
 refine wpAnyF_ready [1] (by kernel_rfl) (by simp) ?_
 refine AllReadyF.cons 1 (o := ⟨some 9, .call { callee := .value (.func 49), args := #[.tmp 8], argTypes := #[31] }, 91, "tree.go:108", #[⟨0, .data⟩], none⟩) rfl (fun K hK => ?g17ro3) ?g17rm3
 case g17rm3 => exact AllReadyF.nil
 go_simp; refine (fits_v sa sn scap l _ (slb HS.out HBX.out.drew) (by omega) hw.kids).mono ?_; rintro e w1 ⟨b3, rfl, hfit, hb1⟩; dsimp only
 refine hK.out _ _ ?g17rs3 (fun hHeld => ?g17rt3)
 case g17rs3 => (try dsimp only); (first | exact r3.drew | exact hHeld.below hb1 | exact hHeld.below hb3)
 try dsimp only at hHeld
 clear hK K
 try simp only [Act.put, pA, pB, pC]
 refine wpAnyF_ready [3] (by kernel_rfl) (by simp) ?_
 refine AllReadyF.cons 3 (o := ⟨some 11, .call { callee := .value (.func 50), args := #[.tmp 9, .const (.int .i64 0), .tmp 10], argTypes := #[91, 3, 29] }, 35, "tree.go:108", #[⟨1, .data⟩, ⟨2, .data⟩, ⟨1, .chain⟩], none⟩) rfl (fun K hK => ?g17ro4) ?g17rm4
 case g17rm4 => exact AllReadyF.nil
 go_simp; refine (all_to l hw (t.size + 1) t (by omega) 0 (by omega) a cap b3 _ hfit (TrAt.below (bt HBX.out.drew hb1) _ _ HT.out)).mono ?_; rintro e w3 ⟨rfl, hb3⟩; dsimp only
 refine hK.out _ _ ?g17rs4 (fun hHeld => ?g17rt4)
 case g17rs4 => (try dsimp only); (first | exact r3.drew | exact hHeld.below hb1 | exact hHeld.below hb3)
 try dsimp only at hHeld
 clear hK K
 try simp only [Act.put, pA, pB, pC]
 refine wpAnyF_ready [4] (by kernel_rfl) (by simp) ?_
 refine AllReadyF.last 4 (o := ⟨some 4, .assign (.tmp 11), 35, "tree.go:108", #[⟨3, .data⟩, ⟨3, .chain⟩, ⟨0, .phase⟩, ⟨1, .phase⟩, ⟨2, .phase⟩, ⟨3, .phase⟩], none⟩) rfl (by kernel_rfl) (fun K hK => ?g17ro5) ?g17rm5
 case g17rm5 => exact AllReadyF.nil
 go_simp
 refine hK.out _ _ ?_
 clear hK K
 try simp only [Act.put, pA, pB, pC]
 refine wpAnyF_done (by kernel_rfl) ?_
 go_wp2_with fail
 go_ret
 exact ⟨rfl, bt (bt HBX.out.drew hb1) hb3⟩
end Go.Proofs.Ytibhcibcfommeaa
