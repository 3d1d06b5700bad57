/-
 The walks of the fitter's value and all.
-/
import Derived.Test.YtibhcibcfommeaaTree1
set_option linter.unusedSimpArgs false
namespace Go.Proofs.Ytibhcibcfommeaa
open Go.RowKit Go.Shr
/-- What the fitter says of all trees of less than so many values. -/
def ValueTo (N : Nat) (l : List Fl) : Prop := ∀ (t : Tr), t.size < N → ∀ (i : Nat), i < l.length → ∀ (a : Option Addr) (cap : Nat) (b3 : Nat) (w : World), FitAt w b3 l → TrAt w t [.int .i64 t.n, .string t.s, .slice a t.kids.length cap] →
 Calls Try.prog 50 #[.pointer (some ⟨b3, 0, none⟩), .int .i64 i, .agg #[.int .i64 t.n, .string t.s, .slice a t.kids.length cap]] w fun e w' => e = .returned (.int .i64 (fitT l (KF l) t i)) ∧ Below w.heap.size w w'
def AllTo (N : Nat) (l : List Fl) : Prop := ∀ (x : List Tr), (∀ t ∈ x, t.size < N) → ∀ (i : Nat), i < l.length → ∀ (a : Option Addr) (cap : Nat) (ys : List Value) (b3 : Nat) (w : World), FitAt w b3 l → Sl (fun b => b < w.heap.size) w 3 a x.length cap ys → RowAt w x ys →
 Calls Try.prog 64 #[.pointer (some ⟨b3, 0, none⟩), .int .i64 i, .slice a x.length cap] w fun e w' => e = .returned (.int .i64 (fitA l (KF l) x i)) ∧ Below w.heap.size w w'
set_option maxHeartbeats 4000000 in
set_option maxRecDepth 100000 in
theorem all_step (N : Nat) (l : List Fl) (_ : Wf l) (hV : ValueTo N l) : AllTo N l := by
 intro x hx i hi a cap ys b3 w hf hs hr
 have hlt := hs.max
 have hle := hs.le
 unfold maxLen at hlt
 obtain ⟨sa, n, scap, bk, hn, r3, hsl, hk⟩ := id hf
 obtain ⟨sb, soff, rfl, hsb, hsc⟩ := hsl.pos (by omega)
 obtain ⟨_, f1, _, _⟩ := fls_get l i hi
 replace f1 := hsc _ _ f1
 rw [← Nat.add_assoc] at f1
 have q0 : w.cell? ⟨b3, 0, none⟩ = some (.slice (some ⟨sb, soff, none⟩) n scap) := r3.cell 0
 have HRep : Hid (flAt l i = l[i]) := Lib.hid (by simp [flAt, hi])
 have HR : Hid (fitA l (KF l) x i = if repT l[i].rep x.length ≠ 0 then repT l[i].rep x.length else fitX l (KF l) x i) := Lib.hid (by rw [fitA, HRep.out])
 generalize l[i].rep = rp at *
 have HF := Lib.hid hf; have HS := Lib.hid hs; have HRW := Lib.hid hr; have HX := Lib.hid hx; have HV := Lib.hid hV
 clear hsc hsl hk r3 hf hs hr hx hV
 by_cases h2 : rp = 2
 ·by_cases h50 : 50 < x.length
  ·have e4 : repT rp x.length = 4 := by subst h2; unfold repT; rw [if_neg (by omega), if_pos h50]
   have H4 : Hid (fitA l (KF l) x i = 4) := Lib.hid (by rw [HR.out, e4]; rfl)
   clear HR e4
   go_enter Try.func64, Try.ntmps64
   go_wp2_with fail
   refine wp_scope_jumps 0 (fun a' w' => ∃ (u3 u4 u5 u6 u7 u8 u9 u10 u11 u12 u13 u14 u15 u16 u17 u18 u19 u20 u21 u22 u23 u24 u25 u26 u27 u28 u29 u30 u31 u32 u33 u34 u35 u36 u37 u38 u39 u40 u41 u42 u43 u44 u45 u46 u47 u48 u49 u50 u51 u52 u53 : Value), a' = { tmps := #[.pointer (some ⟨b3, 0, none⟩), .int .i64 i, .slice a x.length cap, u3, u4, u5, u6, u7, u8, u9, u10, u11, u12, u13, u14, u15, u16, u17, u18, u19, u20, u21, u22, u23, u24, u25, u26, u27, u28, u29, u30, u31, u32, u33, u34, u35, u36, u37, u38, u39, u40, u41, u42, u43, u44, u45, u46, u47, u48, u49, u50, u51, u52, u53], defers := [] } ∧ w' = w ∧ Hid (fitA l (KF l) x i = 13)) (fun _ _ => 0) rfl ?first1 ?pass1
   case pass1 =>
    rintro a' w' ⟨u3, u4, u5, u6, u7, u8, u9, u10, u11, u12, u13, u14, u15, u16, u17, u18, u19, u20, u21, u22, u23, u24, u25, u26, u27, u28, u29, u30, u31, u32, u33, u34, u35, u36, u37, u38, u39, u40, u41, u42, u43, u44, u45, u46, u47, u48, u49, u50, u51, u52, u53, rfl, rfl, H13⟩
    go_wp2_with fail
    simp only [Exit.jump]
    go_ret
    exact ⟨ret_i H13.out.symm, b0 _⟩
   go_wp2_with fail
   simp only [Exit.jump]
   go_ret
   exact ⟨ret_i H4.out.symm, b0 _⟩
  ·have e0 : repT rp x.length = 0 := by subst h2; unfold repT; rw [if_neg (by omega), if_neg h50]
   have HRX : Hid (fitA l (KF l) x i = fitX l (KF l) (x.drop 0) i) := Lib.hid (by rw [HR.out, if_neg (by rw [e0]; decide)]; rfl)
   clear HR e0
   go_enter Try.func64, Try.ntmps64
   go_wp2_with fail
   refine wp_scope_jumps 0 (fun a' w' => ∃ (u3 u4 u5 u6 u7 u8 u9 u10 u11 u12 u13 u14 u15 u16 u17 u18 u19 u20 u21 u22 u23 u24 u25 u26 u27 u28 u29 u30 u31 u32 u33 u34 u35 u36 u37 u38 u39 u40 u41 u42 u43 u44 u45 u46 u47 u48 u49 u50 u51 u52 u53 : Value), a' = { tmps := #[.pointer (some ⟨b3, 0, none⟩), .int .i64 i, .slice a x.length cap, u3, u4, u5, u6, u7, u8, u9, u10, u11, u12, u13, u14, u15, u16, u17, u18, u19, u20, u21, u22, u23, u24, u25, u26, u27, u28, u29, u30, u31, u32, u33, u34, u35, u36, u37, u38, u39, u40, u41, u42, u43, u44, u45, u46, u47, u48, u49, u50, u51, u52, u53], defers := [] } ∧ w' = w ∧ Hid (fitA l (KF l) x i = 13)) (fun _ _ => 0) rfl ?first2 ?pass2
   case pass2 =>
    rintro a' w' ⟨u3, u4, u5, u6, u7, u8, u9, u10, u11, u12, u13, u14, u15, u16, u17, u18, u19, u20, u21, u22, u23, u24, u25, u26, u27, u28, u29, u30, u31, u32, u33, u34, u35, u36, u37, u38, u39, u40, u41, u42, u43, u44, u45, u46, u47, u48, u49, u50, u51, u52, u53, rfl, rfl, H13⟩
    go_wp2_with fail
    simp only [Exit.jump]
    go_ret
    exact ⟨ret_i H13.out.symm, b0 _⟩
   go_wp2_with fail
   go_loopw [42] (fun k wr => ∃ j : Nat, k = .int .i64 j ∧ j ≤ x.length ∧ Hid (fitA l (KF l) x i = fitX l (KF l) (x.drop j) i) ∧ Hid (Below w.heap.size w wr)) (fun k _ => x.length - (intOf k).toNat)
   case atStart => exact ⟨0, rfl, Nat.zero_le _, HRX, Lib.hid (b0 w)⟩
   case round =>
    obtain ⟨j, rfl, hj, HE, HB⟩ := hrel
    by_cases hlj : j < x.length
    ·obtain ⟨tb, toff, rfl, htb, htc⟩ := HS.out.pos (by omega)
     obtain ⟨ka, _, kcap, kxs, g0, g1, g2, rfl, hks, hsl, hkid⟩ := HRW.out.get j hlj
     have hT : TrAt w x[j] [.int .i64 x[j].n, .string x[j].s, .slice ka x[j].kids.length kcap] := TrAt.mk' hks hsl hkid
     replace g0 := cb HB.out (htc _ _ g0); replace g1 := cb HB.out (htc _ _ g1); replace g2 := cb HB.out (htc _ _ g2)
     rw [← Nat.add_assoc] at g1 g2
     have HNX := Lib.hid (fitX_drop l (KF l) x i j hlj)
     have hsz : x[j].size < N := HX.out _ (List.getElem_mem hlj)
     have HT := Lib.hid hT
     generalize x[j] = t at *
     clear htc hks hsl hkid hT
     go_wp2_with fail
     have hb2 := ba (b0 wr) (.cells #[.int .i64 t.n, .string t.s, .slice ka t.kids.length kcap] 29)
     refine (HV.out t hsz i hi ka kcap b3 _ (HF.out.below (bt HB.out hb2)) (TrAt.below (bt HB.out hb2) _ _ HT.out)).mono ?_
     rintro e w2 ⟨rfl, hb3⟩
     have HB2 := Lib.hid (bt (bt HB.out hb2) hb3)
     clear hb2 hb3
     generalize hft : fitT l (KF l) t i = ft at *
     by_cases hz : ft = 0
     ·have HN2 : Hid (fitA l (KF l) x i = fitX l (KF l) (x.drop (j + 1)) i) := Lib.hid (by rw [HE.out, HNX.out, if_neg (fun h => h hz)])
      have hzb : (ft == 0) = true := beq_iff_eq.2 hz
      clear HNX hft
      subst hz
      go_wp2_with fail
      go_roundw
      case rel => exact ⟨j + 1, by go_num, by omega, HN2, HB2⟩
      case measure => simp [intOf]; omega
     ·have HN2 : Hid (fitA l (KF l) x i = ft) := Lib.hid (by rw [HE.out, HNX.out, if_pos hz])
      have hzb : (ft == 0) = false := beq_eq_false_iff_ne.2 hz
      have hzb2 : (ft != 0) = true := by simp [hz]
      clear HNX hft hz
      go_wp2_with fail
      simp only [Exit.jump]
      go_ret
      exact ⟨ret_i HN2.out.symm, HB2.out⟩
    ·obtain rfl : j = x.length := by omega
     have HN2 : Hid (fitA l (KF l) x i = 0) := Lib.hid (by rw [HE.out, List.drop_length]; rfl)
     clear hlj
     go_wp2_with fail
     simp only [Exit.jump]
     go_ret
     exact ⟨ret_i HN2.out.symm, HB.out⟩
 ·have h2b : (rp != 2) = true := by simp [h2]
  have h2c : (rp == 2) = false := beq_eq_false_iff_ne.2 h2
  by_cases h1 : 1 < x.length
  ·have e13 : repT rp x.length = 13 := by unfold repT; rw [if_pos (.inl ⟨h2, h1⟩)]
   clear h2
   have H13 : Hid (fitA l (KF l) x i = 13) := Lib.hid (by rw [HR.out, e13]; rfl)
   clear HR e13
   go_enter Try.func64, Try.ntmps64
   go_wp2_with fail
   refine wp_scope_jumps 0 (fun a' w' => ∃ (u3 u4 u5 u6 u7 u8 u9 u10 u11 u12 u13 u14 u15 u16 u17 u18 u19 u20 u21 u22 u23 u24 u25 u26 u27 u28 u29 u30 u31 u32 u33 u34 u35 u36 u37 u38 u39 u40 u41 u42 u43 u44 u45 u46 u47 u48 u49 u50 u51 u52 u53 : Value), a' = { tmps := #[.pointer (some ⟨b3, 0, none⟩), .int .i64 i, .slice a x.length cap, u3, u4, u5, u6, u7, u8, u9, u10, u11, u12, u13, u14, u15, u16, u17, u18, u19, u20, u21, u22, u23, u24, u25, u26, u27, u28, u29, u30, u31, u32, u33, u34, u35, u36, u37, u38, u39, u40, u41, u42, u43, u44, u45, u46, u47, u48, u49, u50, u51, u52, u53], defers := [] } ∧ w' = w ∧ Hid (fitA l (KF l) x i = 13)) (fun _ _ => 0) rfl ?first3 ?pass3
   case pass3 =>
    rintro a' w' ⟨u3, u4, u5, u6, u7, u8, u9, u10, u11, u12, u13, u14, u15, u16, u17, u18, u19, u20, u21, u22, u23, u24, u25, u26, u27, u28, u29, u30, u31, u32, u33, u34, u35, u36, u37, u38, u39, u40, u41, u42, u43, u44, u45, u46, u47, u48, u49, u50, u51, u52, u53, rfl, rfl, H13⟩
    go_wp2_with fail
    simp only [Exit.jump]
    go_ret
    exact ⟨ret_i H13.out.symm, b0 _⟩
   go_wp2_with fail
   refine Go.wp_goto ?_
   delta Exit.inBlock Exit.then
   dsimp only
   change Exit.jump 0 _ _ (Exit.goto 0) _ _
   delta Exit.jump
   dsimp only
   exact ⟨rfl, _, _, _, _, _, _, _, _, _, _, _, _, _, _, _, _, _, _, _, _, _, _, _, _, _, _, _, _, _, _, _, _, _, _, _, _, _, _, _, _, _, _, _, _, _, _, _, _, _, _, _, rfl, rfl, H13⟩
  ·have h50 : ¬ 50 < x.length := by omega
   by_cases h0 : rp = 0
   ·by_cases hx0 : x.length = 0
    ·have e13 : repT rp x.length = 13 := by unfold repT; rw [if_pos (.inr ⟨h0, hx0⟩)]
     have hxb : ((x.length : Int) == 0) = true := beq_iff_eq.2 (by omega)
     have hrb : (rp == 0) = true := beq_iff_eq.2 h0
     clear h2 h0 hx0
     have H13 : Hid (fitA l (KF l) x i = 13) := Lib.hid (by rw [HR.out, e13]; rfl)
     clear HR e13
     go_enter Try.func64, Try.ntmps64
     go_wp2_with fail
     refine wp_scope_jumps 0 (fun a' w' => ∃ (u3 u4 u5 u6 u7 u8 u9 u10 u11 u12 u13 u14 u15 u16 u17 u18 u19 u20 u21 u22 u23 u24 u25 u26 u27 u28 u29 u30 u31 u32 u33 u34 u35 u36 u37 u38 u39 u40 u41 u42 u43 u44 u45 u46 u47 u48 u49 u50 u51 u52 u53 : Value), a' = { tmps := #[.pointer (some ⟨b3, 0, none⟩), .int .i64 i, .slice a x.length cap, u3, u4, u5, u6, u7, u8, u9, u10, u11, u12, u13, u14, u15, u16, u17, u18, u19, u20, u21, u22, u23, u24, u25, u26, u27, u28, u29, u30, u31, u32, u33, u34, u35, u36, u37, u38, u39, u40, u41, u42, u43, u44, u45, u46, u47, u48, u49, u50, u51, u52, u53], defers := [] } ∧ w' = w ∧ Hid (fitA l (KF l) x i = 13)) (fun _ _ => 0) rfl ?first4 ?pass4
     case pass4 =>
      rintro a' w' ⟨u3, u4, u5, u6, u7, u8, u9, u10, u11, u12, u13, u14, u15, u16, u17, u18, u19, u20, u21, u22, u23, u24, u25, u26, u27, u28, u29, u30, u31, u32, u33, u34, u35, u36, u37, u38, u39, u40, u41, u42, u43, u44, u45, u46, u47, u48, u49, u50, u51, u52, u53, rfl, rfl, H13⟩
      go_wp2_with fail
      simp only [Exit.jump]
      go_ret
      exact ⟨ret_i H13.out.symm, b0 _⟩
     go_wp2_with fail
     refine Go.wp_goto ?_
     delta Exit.inBlock Exit.then
     dsimp only
     change Exit.jump 0 _ _ (Exit.goto 0) _ _
     delta Exit.jump
     dsimp only
     exact ⟨rfl, _, _, _, _, _, _, _, _, _, _, _, _, _, _, _, _, _, _, _, _, _, _, _, _, _, _, _, _, _, _, _, _, _, _, _, _, _, _, _, _, _, _, _, _, _, _, _, _, _, _, _, rfl, rfl, H13⟩
    ·have e0 : repT rp x.length = 0 := by unfold repT; rw [if_neg (by omega), if_neg h50]
     have hxb : ((x.length : Int) == 0) = false := beq_eq_false_iff_ne.2 (by omega)
     have hrb : (rp == 0) = true := beq_iff_eq.2 h0
     clear h2 h0
     have HRX : Hid (fitA l (KF l) x i = fitX l (KF l) (x.drop 0) i) := Lib.hid (by rw [HR.out, if_neg (by rw [e0]; decide)]; rfl)
     clear HR e0
     go_enter Try.func64, Try.ntmps64
     go_wp2_with fail
     refine wp_scope_jumps 0 (fun a' w' => ∃ (u3 u4 u5 u6 u7 u8 u9 u10 u11 u12 u13 u14 u15 u16 u17 u18 u19 u20 u21 u22 u23 u24 u25 u26 u27 u28 u29 u30 u31 u32 u33 u34 u35 u36 u37 u38 u39 u40 u41 u42 u43 u44 u45 u46 u47 u48 u49 u50 u51 u52 u53 : Value), a' = { tmps := #[.pointer (some ⟨b3, 0, none⟩), .int .i64 i, .slice a x.length cap, u3, u4, u5, u6, u7, u8, u9, u10, u11, u12, u13, u14, u15, u16, u17, u18, u19, u20, u21, u22, u23, u24, u25, u26, u27, u28, u29, u30, u31, u32, u33, u34, u35, u36, u37, u38, u39, u40, u41, u42, u43, u44, u45, u46, u47, u48, u49, u50, u51, u52, u53], defers := [] } ∧ w' = w ∧ Hid (fitA l (KF l) x i = 13)) (fun _ _ => 0) rfl ?first5 ?pass5
     case pass5 =>
      rintro a' w' ⟨u3, u4, u5, u6, u7, u8, u9, u10, u11, u12, u13, u14, u15, u16, u17, u18, u19, u20, u21, u22, u23, u24, u25, u26, u27, u28, u29, u30, u31, u32, u33, u34, u35, u36, u37, u38, u39, u40, u41, u42, u43, u44, u45, u46, u47, u48, u49, u50, u51, u52, u53, rfl, rfl, H13⟩
      go_wp2_with fail
      simp only [Exit.jump]
      go_ret
      exact ⟨ret_i H13.out.symm, b0 _⟩
     go_wp2_with fail
     go_loopw [42] (fun k wr => ∃ j : Nat, k = .int .i64 j ∧ j ≤ x.length ∧ Hid (fitA l (KF l) x i = fitX l (KF l) (x.drop j) i) ∧ Hid (Below w.heap.size w wr)) (fun k _ => x.length - (intOf k).toNat)
     case atStart => exact ⟨0, rfl, Nat.zero_le _, HRX, Lib.hid (b0 w)⟩
     case round =>
      obtain ⟨j, rfl, hj, HE, HB⟩ := hrel
      by_cases hlj : j < x.length
      ·obtain ⟨tb, toff, rfl, htb, htc⟩ := HS.out.pos (by omega)
       obtain ⟨ka, _, kcap, kxs, g0, g1, g2, rfl, hks, hsl, hkid⟩ := HRW.out.get j hlj
       have hT : TrAt w x[j] [.int .i64 x[j].n, .string x[j].s, .slice ka x[j].kids.length kcap] := TrAt.mk' hks hsl hkid
       replace g0 := cb HB.out (htc _ _ g0); replace g1 := cb HB.out (htc _ _ g1); replace g2 := cb HB.out (htc _ _ g2)
       rw [← Nat.add_assoc] at g1 g2
       have HNX := Lib.hid (fitX_drop l (KF l) x i j hlj)
       have hsz : x[j].size < N := HX.out _ (List.getElem_mem hlj)
       have HT := Lib.hid hT
       generalize x[j] = t at *
       clear htc hks hsl hkid hT
       go_wp2_with fail
       have hb2 := ba (b0 wr) (.cells #[.int .i64 t.n, .string t.s, .slice ka t.kids.length kcap] 29)
       refine (HV.out t hsz i hi ka kcap b3 _ (HF.out.below (bt HB.out hb2)) (TrAt.below (bt HB.out hb2) _ _ HT.out)).mono ?_
       rintro e w2 ⟨rfl, hb3⟩
       have HB2 := Lib.hid (bt (bt HB.out hb2) hb3)
       clear hb2 hb3
       generalize hft : fitT l (KF l) t i = ft at *
       by_cases hz : ft = 0
       ·have HN2 : Hid (fitA l (KF l) x i = fitX l (KF l) (x.drop (j + 1)) i) := Lib.hid (by rw [HE.out, HNX.out, if_neg (fun h => h hz)])
        have hzb : (ft == 0) = true := beq_iff_eq.2 hz
        clear HNX hft
        subst hz
        go_wp2_with fail
        go_roundw
        case rel => exact ⟨j + 1, by go_num, by omega, HN2, HB2⟩
        case measure => simp [intOf]; omega
       ·have HN2 : Hid (fitA l (KF l) x i = ft) := Lib.hid (by rw [HE.out, HNX.out, if_pos hz])
        have hzb : (ft == 0) = false := beq_eq_false_iff_ne.2 hz
        have hzb2 : (ft != 0) = true := by simp [hz]
        clear HNX hft hz
        go_wp2_with fail
        simp only [Exit.jump]
        go_ret
        exact ⟨ret_i HN2.out.symm, HB2.out⟩
      ·obtain rfl : j = x.length := by omega
       have HN2 : Hid (fitA l (KF l) x i = 0) := Lib.hid (by rw [HE.out, List.drop_length]; rfl)
       clear hlj
       go_wp2_with fail
       simp only [Exit.jump]
       go_ret
       exact ⟨ret_i HN2.out.symm, HB.out⟩
   ·have e0 : repT rp x.length = 0 := by unfold repT; rw [if_neg (by omega), if_neg h50]
    have hrb : (rp == 0) = false := beq_eq_false_iff_ne.2 h0
    clear h2 h0
    have HRX : Hid (fitA l (KF l) x i = fitX l (KF l) (x.drop 0) i) := Lib.hid (by rw [HR.out, if_neg (by rw [e0]; decide)]; rfl)
    clear HR e0
    go_enter Try.func64, Try.ntmps64
    go_wp2_with fail
    refine wp_scope_jumps 0 (fun a' w' => ∃ (u3 u4 u5 u6 u7 u8 u9 u10 u11 u12 u13 u14 u15 u16 u17 u18 u19 u20 u21 u22 u23 u24 u25 u26 u27 u28 u29 u30 u31 u32 u33 u34 u35 u36 u37 u38 u39 u40 u41 u42 u43 u44 u45 u46 u47 u48 u49 u50 u51 u52 u53 : Value), a' = { tmps := #[.pointer (some ⟨b3, 0, none⟩), .int .i64 i, .slice a x.length cap, u3, u4, u5, u6, u7, u8, u9, u10, u11, u12, u13, u14, u15, u16, u17, u18, u19, u20, u21, u22, u23, u24, u25, u26, u27, u28, u29, u30, u31, u32, u33, u34, u35, u36, u37, u38, u39, u40, u41, u42, u43, u44, u45, u46, u47, u48, u49, u50, u51, u52, u53], defers := [] } ∧ w' = w ∧ Hid (fitA l (KF l) x i = 13)) (fun _ _ => 0) rfl ?first6 ?pass6
    case pass6 =>
     rintro a' w' ⟨u3, u4, u5, u6, u7, u8, u9, u10, u11, u12, u13, u14, u15, u16, u17, u18, u19, u20, u21, u22, u23, u24, u25, u26, u27, u28, u29, u30, u31, u32, u33, u34, u35, u36, u37, u38, u39, u40, u41, u42, u43, u44, u45, u46, u47, u48, u49, u50, u51, u52, u53, rfl, rfl, H13⟩
     go_wp2_with fail
     simp only [Exit.jump]
     go_ret
     exact ⟨ret_i H13.out.symm, b0 _⟩
    go_wp2_with fail
    go_loopw [42] (fun k wr => ∃ j : Nat, k = .int .i64 j ∧ j ≤ x.length ∧ Hid (fitA l (KF l) x i = fitX l (KF l) (x.drop j) i) ∧ Hid (Below w.heap.size w wr)) (fun k _ => x.length - (intOf k).toNat)
    case atStart => exact ⟨0, rfl, Nat.zero_le _, HRX, Lib.hid (b0 w)⟩
    case round =>
     obtain ⟨j, rfl, hj, HE, HB⟩ := hrel
     by_cases hlj : j < x.length
     ·obtain ⟨tb, toff, rfl, htb, htc⟩ := HS.out.pos (by omega)
      obtain ⟨ka, _, kcap, kxs, g0, g1, g2, rfl, hks, hsl, hkid⟩ := HRW.out.get j hlj
      have hT : TrAt w x[j] [.int .i64 x[j].n, .string x[j].s, .slice ka x[j].kids.length kcap] := TrAt.mk' hks hsl hkid
      replace g0 := cb HB.out (htc _ _ g0); replace g1 := cb HB.out (htc _ _ g1); replace g2 := cb HB.out (htc _ _ g2)
      rw [← Nat.add_assoc] at g1 g2
      have HNX := Lib.hid (fitX_drop l (KF l) x i j hlj)
      have hsz : x[j].size < N := HX.out _ (List.getElem_mem hlj)
      have HT := Lib.hid hT
      generalize x[j] = t at *
      clear htc hks hsl hkid hT
      go_wp2_with fail
      have hb2 := ba (b0 wr) (.cells #[.int .i64 t.n, .string t.s, .slice ka t.kids.length kcap] 29)
      refine (HV.out t hsz i hi ka kcap b3 _ (HF.out.below (bt HB.out hb2)) (TrAt.below (bt HB.out hb2) _ _ HT.out)).mono ?_
      rintro e w2 ⟨rfl, hb3⟩
      have HB2 := Lib.hid (bt (bt HB.out hb2) hb3)
      clear hb2 hb3
      generalize hft : fitT l (KF l) t i = ft at *
      by_cases hz : ft = 0
      ·have HN2 : Hid (fitA l (KF l) x i = fitX l (KF l) (x.drop (j + 1)) i) := Lib.hid (by rw [HE.out, HNX.out, if_neg (fun h => h hz)])
       have hzb : (ft == 0) = true := beq_iff_eq.2 hz
       clear HNX hft
       subst hz
       go_wp2_with fail
       go_roundw
       case rel => exact ⟨j + 1, by go_num, by omega, HN2, HB2⟩
       case measure => simp [intOf]; omega
      ·have HN2 : Hid (fitA l (KF l) x i = ft) := Lib.hid (by rw [HE.out, HNX.out, if_pos hz])
       have hzb : (ft == 0) = false := beq_eq_false_iff_ne.2 hz
       have hzb2 : (ft != 0) = true := by simp [hz]
       clear HNX hft hz
       go_wp2_with fail
       simp only [Exit.jump]
       go_ret
       exact ⟨ret_i HN2.out.symm, HB2.out⟩
     ·obtain rfl : j = x.length := by omega
      have HN2 : Hid (fitA l (KF l) x i = 0) := Lib.hid (by rw [HE.out, List.drop_length]; rfl)
      clear hlj
      go_wp2_with fail
      simp only [Exit.jump]
      go_ret
      exact ⟨ret_i HN2.out.symm, HB.out⟩
end Go.Proofs.Ytibhcibcfommeaa
