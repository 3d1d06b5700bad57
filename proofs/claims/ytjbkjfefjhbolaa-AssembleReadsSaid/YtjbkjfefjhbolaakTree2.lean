import Derived.Test.YtjbkjfefjhbolaakSch4
set_option linter.all false
open List renaming getElem_mem → zLP, drop_length → zLR
open Nat renaming add_assoc → zLQ, zero_le → zLS
namespace Go.Proofs.Ytjbkjfefjhbolaa
open Go.RowKit Go.Shr
def zFp (N : Nat) (l : List Fl) : Prop := ∀ (t : Tr), t.size < N → ∀ (i : Nat), i < l.length → ∀ (a : Option Addr) (cap : Nat) (b3 : Nat) (w : World), zFy w b3 l → xS w t [.int .i64 t.n, .string t.s, .slice a t.kids.length cap] →
 Calls Try.prog 72 #[.pointer (some ⟨b3, 0, none⟩), .int .i64 i, .agg #[.int .i64 t.n, .string t.s, .slice a t.kids.length cap]] w fun e w' => e = .returned (.int .i64 (yL l (KF l) t i)) ∧ Below w.heap.size w w'
def zKP (N : Nat) (l : List Fl) : Prop := ∀ (x : List Tr), (∀ t ∈ x, t.size < N) → ∀ (i : Nat), i < l.length → ∀ (a : Option Addr) (cap : Nat) (ys : List Value) (b3 : Nat) (w : World), zFy w b3 l → Sl (fun b => b < w.heap.size) w 3 a x.length cap ys → yN w x ys →
 Calls Try.prog 77 #[.pointer (some ⟨b3, 0, none⟩), .int .i64 i, .slice a x.length cap] w fun e w' => e = .returned (.int .i64 (qQ l (KF l) x i)) ∧ Below w.heap.size w w'
set_option maxHeartbeats 4000000 in
set_option maxRecDepth 100000 in
theorem zJm (N : Nat) (l : List Fl) (_ : Wf l) (hV : zFp N l) : zKP N l := by
 intro x hx i hi a cap ys b3 w hf hs hr
 have hlt := hs.max
 have hle := hs.le
 unfold maxLen at hlt
 obtain ⟨sa, n, scap, bk, hn, r3, hsl, hk⟩ := id hf
 obtain ⟨sb, soff, rfl, hsb, hsc⟩ := hsl.pos (by omega)
 obtain ⟨_, f1, _, _⟩ := yB l i hi
 replace f1 := hsc _ _ f1
 rw [← zLQ] at f1
 have q0 : w.cell? ⟨b3, 0, none⟩ = some (.slice (some ⟨sb, soff, none⟩) n scap) := r3.cell 0
 have HRep : Hid (jX l i = l[i]) := zH (by simp [jX, hi])
 have HR : Hid (qQ l (KF l) x i = if qN l[i].rep x.length ≠ 0 then qN l[i].rep x.length else jS l (KF l) x i) := zH (by rw [qQ, HRep.out])
 generalize l[i].rep = rp at *
 have HF := zH hf; have HS := zH hs; have HRW := zH hr; have HX := zH hx; have HV := zH hV
 clear hsc hsl hk r3 hf hs hr hx hV
 by_cases h2 : rp = 2
 ·by_cases h50 : 50 < x.length
  ·have e4 : qN rp x.length = 4 := by subst h2; unfold qN; rw [if_neg (by omega), if_pos h50]
   have H4 : Hid (qQ l (KF l) x i = 4) := zH (by rw [HR.out, e4]; rfl)
   clear HR e4
   go_enter Try.func77, Try.ntmps77
   go_wp2_with fail
   refine wp_scope_jumps 0 (fun a' w' => ∃ (u3 u4 u5 u6 u7 u8 u9 u10 u11 u12 u13 u14 u15 u16 u17 u18 u19 u20 u21 u22 u23 u24 u25 u26 u27 u28 u29 u30 u31 u32 u33 u34 u35 u36 u37 u38 u39 u40 u41 u42 u43 u44 u45 u46 u47 u48 u49 u50 u51 u52 u53 : Value), a' = { tmps := #[.pointer (some ⟨b3, 0, none⟩), .int .i64 i, .slice a x.length cap, u3, u4, u5, u6, u7, u8, u9, u10, u11, u12, u13, u14, u15, u16, u17, u18, u19, u20, u21, u22, u23, u24, u25, u26, u27, u28, u29, u30, u31, u32, u33, u34, u35, u36, u37, u38, u39, u40, u41, u42, u43, u44, u45, u46, u47, u48, u49, u50, u51, u52, u53], defers := [] } ∧ w' = w ∧ Hid (qQ l (KF l) x i = 13)) (fun _ _ => 0) rfl ?first1 ?pass1
   case pass1 =>
    rintro a' w' ⟨u3, u4, u5, u6, u7, u8, u9, u10, u11, u12, u13, u14, u15, u16, u17, u18, u19, u20, u21, u22, u23, u24, u25, u26, u27, u28, u29, u30, u31, u32, u33, u34, u35, u36, u37, u38, u39, u40, u41, u42, u43, u44, u45, u46, u47, u48, u49, u50, u51, u52, u53, rfl, rfl, H13⟩
    go_wp2_with fail
    simp only [Exit.jump]
    go_ret
    exact ⟨zX H13.out.symm, b0 _⟩
   go_wp2_with fail
   simp only [Exit.jump]
   go_ret
   exact ⟨zX H4.out.symm, b0 _⟩
  ·have e0 : qN rp x.length = 0 := by subst h2; unfold qN; rw [if_neg (by omega), if_neg h50]
   have HRX : Hid (qQ l (KF l) x i = jS l (KF l) (x.drop 0) i) := zH (by rw [HR.out, if_neg (by rw [e0]; decide)]; rfl)
   clear HR e0
   go_enter Try.func77, Try.ntmps77
   go_wp2_with fail
   refine wp_scope_jumps 0 (fun a' w' => ∃ (u3 u4 u5 u6 u7 u8 u9 u10 u11 u12 u13 u14 u15 u16 u17 u18 u19 u20 u21 u22 u23 u24 u25 u26 u27 u28 u29 u30 u31 u32 u33 u34 u35 u36 u37 u38 u39 u40 u41 u42 u43 u44 u45 u46 u47 u48 u49 u50 u51 u52 u53 : Value), a' = { tmps := #[.pointer (some ⟨b3, 0, none⟩), .int .i64 i, .slice a x.length cap, u3, u4, u5, u6, u7, u8, u9, u10, u11, u12, u13, u14, u15, u16, u17, u18, u19, u20, u21, u22, u23, u24, u25, u26, u27, u28, u29, u30, u31, u32, u33, u34, u35, u36, u37, u38, u39, u40, u41, u42, u43, u44, u45, u46, u47, u48, u49, u50, u51, u52, u53], defers := [] } ∧ w' = w ∧ Hid (qQ l (KF l) x i = 13)) (fun _ _ => 0) rfl ?first2 ?pass2
   case pass2 =>
    rintro a' w' ⟨u3, u4, u5, u6, u7, u8, u9, u10, u11, u12, u13, u14, u15, u16, u17, u18, u19, u20, u21, u22, u23, u24, u25, u26, u27, u28, u29, u30, u31, u32, u33, u34, u35, u36, u37, u38, u39, u40, u41, u42, u43, u44, u45, u46, u47, u48, u49, u50, u51, u52, u53, rfl, rfl, H13⟩
    go_wp2_with fail
    simp only [Exit.jump]
    go_ret
    exact ⟨zX H13.out.symm, b0 _⟩
   go_wp2_with fail
   go_loopw [42] (fun k wr => ∃ j : Nat, k = .int .i64 j ∧ j ≤ x.length ∧ Hid (qQ l (KF l) x i = jS l (KF l) (x.drop j) i) ∧ Hid (Below w.heap.size w wr)) (fun k _ => x.length - (intOf k).toNat)
   case atStart => exact ⟨0, rfl, zLS _, HRX, zH (b0 w)⟩
   case round =>
    obtain ⟨j, rfl, hj, HE, HB⟩ := hrel
    by_cases hlj : j < x.length
    ·obtain ⟨tb, toff, rfl, htb, htc⟩ := HS.out.pos (by omega)
     obtain ⟨ka, _, kcap, kxs, g0, g1, g2, rfl, hks, hsl, hkid⟩ := HRW.out.get j hlj
     have hT : xS w x[j] [.int .i64 x[j].n, .string x[j].s, .slice ka x[j].kids.length kcap] := xS.mk' hks hsl hkid
     replace g0 := cb HB.out (htc _ _ g0); replace g1 := cb HB.out (htc _ _ g1); replace g2 := cb HB.out (htc _ _ g2)
     rw [← zLQ] at g1 g2
     have HNX := zH (zBG l (KF l) x i j hlj)
     have hsz : x[j].size < N := HX.out _ (zLP hlj)
     have HT := zH hT
     generalize x[j] = t at *
     clear htc hks hsl hkid hT
     go_wp2_with fail
     have hb2 := ba (b0 wr) (.cells #[.int .i64 t.n, .string t.s, .slice ka t.kids.length kcap] 57)
     refine (HV.out t hsz i hi ka kcap b3 _ (HF.out.below (bt HB.out hb2)) (xS.below (bt HB.out hb2) _ _ HT.out)).mono ?_
     rintro e w2 ⟨rfl, hb3⟩
     have HB2 := zH (bt (bt HB.out hb2) hb3)
     clear hb2 hb3
     generalize hft : yL l (KF l) t i = ft at *
     by_cases hz : ft = 0
     ·have HN2 : Hid (qQ l (KF l) x i = jS l (KF l) (x.drop (j + 1)) i) := zH (by rw [HE.out, HNX.out, if_neg (fun h => h hz)])
      have hzb : (ft == 0) = true := beq_iff_eq.2 hz
      clear HNX hft
      subst hz
      go_wp2_with fail
      go_roundw
      case rel => exact ⟨j + 1, by go_num, by omega, HN2, HB2⟩
      case measure => simp [intOf]; omega
     ·have HN2 : Hid (qQ l (KF l) x i = ft) := zH (by rw [HE.out, HNX.out, if_pos hz])
      have hzb : (ft == 0) = false := beq_eq_false_iff_ne.2 hz
      have hzb2 : (ft != 0) = true := by simp [hz]
      clear HNX hft hz
      go_wp2_with fail
      simp only [Exit.jump]
      go_ret
      exact ⟨zX HN2.out.symm, HB2.out⟩
    ·obtain rfl : j = x.length := by omega
     have HN2 : Hid (qQ l (KF l) x i = 0) := zH (by rw [HE.out, zLR]; rfl)
     clear hlj
     go_wp2_with fail
     simp only [Exit.jump]
     go_ret
     exact ⟨zX HN2.out.symm, HB.out⟩
 ·have h2b : (rp != 2) = true := by simp [h2]
  have h2c : (rp == 2) = false := beq_eq_false_iff_ne.2 h2
  by_cases h1 : 1 < x.length
  ·have e13 : qN rp x.length = 13 := by unfold qN; rw [if_pos (.inl ⟨h2, h1⟩)]
   clear h2
   have H13 : Hid (qQ l (KF l) x i = 13) := zH (by rw [HR.out, e13]; rfl)
   clear HR e13
   go_enter Try.func77, Try.ntmps77
   go_wp2_with fail
   refine wp_scope_jumps 0 (fun a' w' => ∃ (u3 u4 u5 u6 u7 u8 u9 u10 u11 u12 u13 u14 u15 u16 u17 u18 u19 u20 u21 u22 u23 u24 u25 u26 u27 u28 u29 u30 u31 u32 u33 u34 u35 u36 u37 u38 u39 u40 u41 u42 u43 u44 u45 u46 u47 u48 u49 u50 u51 u52 u53 : Value), a' = { tmps := #[.pointer (some ⟨b3, 0, none⟩), .int .i64 i, .slice a x.length cap, u3, u4, u5, u6, u7, u8, u9, u10, u11, u12, u13, u14, u15, u16, u17, u18, u19, u20, u21, u22, u23, u24, u25, u26, u27, u28, u29, u30, u31, u32, u33, u34, u35, u36, u37, u38, u39, u40, u41, u42, u43, u44, u45, u46, u47, u48, u49, u50, u51, u52, u53], defers := [] } ∧ w' = w ∧ Hid (qQ l (KF l) x i = 13)) (fun _ _ => 0) rfl ?first3 ?pass3
   case pass3 =>
    rintro a' w' ⟨u3, u4, u5, u6, u7, u8, u9, u10, u11, u12, u13, u14, u15, u16, u17, u18, u19, u20, u21, u22, u23, u24, u25, u26, u27, u28, u29, u30, u31, u32, u33, u34, u35, u36, u37, u38, u39, u40, u41, u42, u43, u44, u45, u46, u47, u48, u49, u50, u51, u52, u53, rfl, rfl, H13⟩
    go_wp2_with fail
    simp only [Exit.jump]
    go_ret
    exact ⟨zX H13.out.symm, b0 _⟩
   go_wp2_with fail
   refine Go.wp_goto ?_
   delta Exit.inBlock Exit.then
   dsimp only
   change Exit.jump 0 _ _ (Exit.goto 0) _ _
   delta Exit.jump
   dsimp only
   exact ⟨rfl, _, _, _, _, _, _, _, _, _, _, _, _, _, _, _, _, _, _, _, _, _, _, _, _, _, _, _, _, _, _, _, _, _, _, _, _, _, _, _, _, _, _, _, _, _, _, _, _, _, _, _, rfl, rfl, H13⟩
  ·have h50 : ¬ 50 < x.length := by omega
   by_cases h0 : rp = 0
   ·by_cases hx0 : x.length = 0
    ·have e13 : qN rp x.length = 13 := by unfold qN; rw [if_pos (.inr ⟨h0, hx0⟩)]
     have hxb : ((x.length : Int) == 0) = true := beq_iff_eq.2 (by omega)
     have hrb : (rp == 0) = true := beq_iff_eq.2 h0
     clear h2 h0 hx0
     have H13 : Hid (qQ l (KF l) x i = 13) := zH (by rw [HR.out, e13]; rfl)
     clear HR e13
     go_enter Try.func77, Try.ntmps77
     go_wp2_with fail
     refine wp_scope_jumps 0 (fun a' w' => ∃ (u3 u4 u5 u6 u7 u8 u9 u10 u11 u12 u13 u14 u15 u16 u17 u18 u19 u20 u21 u22 u23 u24 u25 u26 u27 u28 u29 u30 u31 u32 u33 u34 u35 u36 u37 u38 u39 u40 u41 u42 u43 u44 u45 u46 u47 u48 u49 u50 u51 u52 u53 : Value), a' = { tmps := #[.pointer (some ⟨b3, 0, none⟩), .int .i64 i, .slice a x.length cap, u3, u4, u5, u6, u7, u8, u9, u10, u11, u12, u13, u14, u15, u16, u17, u18, u19, u20, u21, u22, u23, u24, u25, u26, u27, u28, u29, u30, u31, u32, u33, u34, u35, u36, u37, u38, u39, u40, u41, u42, u43, u44, u45, u46, u47, u48, u49, u50, u51, u52, u53], defers := [] } ∧ w' = w ∧ Hid (qQ l (KF l) x i = 13)) (fun _ _ => 0) rfl ?first4 ?pass4
     case pass4 =>
      rintro a' w' ⟨u3, u4, u5, u6, u7, u8, u9, u10, u11, u12, u13, u14, u15, u16, u17, u18, u19, u20, u21, u22, u23, u24, u25, u26, u27, u28, u29, u30, u31, u32, u33, u34, u35, u36, u37, u38, u39, u40, u41, u42, u43, u44, u45, u46, u47, u48, u49, u50, u51, u52, u53, rfl, rfl, H13⟩
      go_wp2_with fail
      simp only [Exit.jump]
      go_ret
      exact ⟨zX H13.out.symm, b0 _⟩
     go_wp2_with fail
     refine Go.wp_goto ?_
     delta Exit.inBlock Exit.then
     dsimp only
     change Exit.jump 0 _ _ (Exit.goto 0) _ _
     delta Exit.jump
     dsimp only
     exact ⟨rfl, _, _, _, _, _, _, _, _, _, _, _, _, _, _, _, _, _, _, _, _, _, _, _, _, _, _, _, _, _, _, _, _, _, _, _, _, _, _, _, _, _, _, _, _, _, _, _, _, _, _, _, rfl, rfl, H13⟩
    ·have e0 : qN rp x.length = 0 := by unfold qN; rw [if_neg (by omega), if_neg h50]
     have hxb : ((x.length : Int) == 0) = false := beq_eq_false_iff_ne.2 (by omega)
     have hrb : (rp == 0) = true := beq_iff_eq.2 h0
     clear h2 h0
     have HRX : Hid (qQ l (KF l) x i = jS l (KF l) (x.drop 0) i) := zH (by rw [HR.out, if_neg (by rw [e0]; decide)]; rfl)
     clear HR e0
     go_enter Try.func77, Try.ntmps77
     go_wp2_with fail
     refine wp_scope_jumps 0 (fun a' w' => ∃ (u3 u4 u5 u6 u7 u8 u9 u10 u11 u12 u13 u14 u15 u16 u17 u18 u19 u20 u21 u22 u23 u24 u25 u26 u27 u28 u29 u30 u31 u32 u33 u34 u35 u36 u37 u38 u39 u40 u41 u42 u43 u44 u45 u46 u47 u48 u49 u50 u51 u52 u53 : Value), a' = { tmps := #[.pointer (some ⟨b3, 0, none⟩), .int .i64 i, .slice a x.length cap, u3, u4, u5, u6, u7, u8, u9, u10, u11, u12, u13, u14, u15, u16, u17, u18, u19, u20, u21, u22, u23, u24, u25, u26, u27, u28, u29, u30, u31, u32, u33, u34, u35, u36, u37, u38, u39, u40, u41, u42, u43, u44, u45, u46, u47, u48, u49, u50, u51, u52, u53], defers := [] } ∧ w' = w ∧ Hid (qQ l (KF l) x i = 13)) (fun _ _ => 0) rfl ?first5 ?pass5
     case pass5 =>
      rintro a' w' ⟨u3, u4, u5, u6, u7, u8, u9, u10, u11, u12, u13, u14, u15, u16, u17, u18, u19, u20, u21, u22, u23, u24, u25, u26, u27, u28, u29, u30, u31, u32, u33, u34, u35, u36, u37, u38, u39, u40, u41, u42, u43, u44, u45, u46, u47, u48, u49, u50, u51, u52, u53, rfl, rfl, H13⟩
      go_wp2_with fail
      simp only [Exit.jump]
      go_ret
      exact ⟨zX H13.out.symm, b0 _⟩
     go_wp2_with fail
     go_loopw [42] (fun k wr => ∃ j : Nat, k = .int .i64 j ∧ j ≤ x.length ∧ Hid (qQ l (KF l) x i = jS l (KF l) (x.drop j) i) ∧ Hid (Below w.heap.size w wr)) (fun k _ => x.length - (intOf k).toNat)
     case atStart => exact ⟨0, rfl, zLS _, HRX, zH (b0 w)⟩
     case round =>
      obtain ⟨j, rfl, hj, HE, HB⟩ := hrel
      by_cases hlj : j < x.length
      ·obtain ⟨tb, toff, rfl, htb, htc⟩ := HS.out.pos (by omega)
       obtain ⟨ka, _, kcap, kxs, g0, g1, g2, rfl, hks, hsl, hkid⟩ := HRW.out.get j hlj
       have hT : xS w x[j] [.int .i64 x[j].n, .string x[j].s, .slice ka x[j].kids.length kcap] := xS.mk' hks hsl hkid
       replace g0 := cb HB.out (htc _ _ g0); replace g1 := cb HB.out (htc _ _ g1); replace g2 := cb HB.out (htc _ _ g2)
       rw [← zLQ] at g1 g2
       have HNX := zH (zBG l (KF l) x i j hlj)
       have hsz : x[j].size < N := HX.out _ (zLP hlj)
       have HT := zH hT
       generalize x[j] = t at *
       clear htc hks hsl hkid hT
       go_wp2_with fail
       have hb2 := ba (b0 wr) (.cells #[.int .i64 t.n, .string t.s, .slice ka t.kids.length kcap] 57)
       refine (HV.out t hsz i hi ka kcap b3 _ (HF.out.below (bt HB.out hb2)) (xS.below (bt HB.out hb2) _ _ HT.out)).mono ?_
       rintro e w2 ⟨rfl, hb3⟩
       have HB2 := zH (bt (bt HB.out hb2) hb3)
       clear hb2 hb3
       generalize hft : yL l (KF l) t i = ft at *
       by_cases hz : ft = 0
       ·have HN2 : Hid (qQ l (KF l) x i = jS l (KF l) (x.drop (j + 1)) i) := zH (by rw [HE.out, HNX.out, if_neg (fun h => h hz)])
        have hzb : (ft == 0) = true := beq_iff_eq.2 hz
        clear HNX hft
        subst hz
        go_wp2_with fail
        go_roundw
        case rel => exact ⟨j + 1, by go_num, by omega, HN2, HB2⟩
        case measure => simp [intOf]; omega
       ·have HN2 : Hid (qQ l (KF l) x i = ft) := zH (by rw [HE.out, HNX.out, if_pos hz])
        have hzb : (ft == 0) = false := beq_eq_false_iff_ne.2 hz
        have hzb2 : (ft != 0) = true := by simp [hz]
        clear HNX hft hz
        go_wp2_with fail
        simp only [Exit.jump]
        go_ret
        exact ⟨zX HN2.out.symm, HB2.out⟩
      ·obtain rfl : j = x.length := by omega
       have HN2 : Hid (qQ l (KF l) x i = 0) := zH (by rw [HE.out, zLR]; rfl)
       clear hlj
       go_wp2_with fail
       simp only [Exit.jump]
       go_ret
       exact ⟨zX HN2.out.symm, HB.out⟩
   ·have e0 : qN rp x.length = 0 := by unfold qN; rw [if_neg (by omega), if_neg h50]
    have hrb : (rp == 0) = false := beq_eq_false_iff_ne.2 h0
    clear h2 h0
    have HRX : Hid (qQ l (KF l) x i = jS l (KF l) (x.drop 0) i) := zH (by rw [HR.out, if_neg (by rw [e0]; decide)]; rfl)
    clear HR e0
    go_enter Try.func77, Try.ntmps77
    go_wp2_with fail
    refine wp_scope_jumps 0 (fun a' w' => ∃ (u3 u4 u5 u6 u7 u8 u9 u10 u11 u12 u13 u14 u15 u16 u17 u18 u19 u20 u21 u22 u23 u24 u25 u26 u27 u28 u29 u30 u31 u32 u33 u34 u35 u36 u37 u38 u39 u40 u41 u42 u43 u44 u45 u46 u47 u48 u49 u50 u51 u52 u53 : Value), a' = { tmps := #[.pointer (some ⟨b3, 0, none⟩), .int .i64 i, .slice a x.length cap, u3, u4, u5, u6, u7, u8, u9, u10, u11, u12, u13, u14, u15, u16, u17, u18, u19, u20, u21, u22, u23, u24, u25, u26, u27, u28, u29, u30, u31, u32, u33, u34, u35, u36, u37, u38, u39, u40, u41, u42, u43, u44, u45, u46, u47, u48, u49, u50, u51, u52, u53], defers := [] } ∧ w' = w ∧ Hid (qQ l (KF l) x i = 13)) (fun _ _ => 0) rfl ?first6 ?pass6
    case pass6 =>
     rintro a' w' ⟨u3, u4, u5, u6, u7, u8, u9, u10, u11, u12, u13, u14, u15, u16, u17, u18, u19, u20, u21, u22, u23, u24, u25, u26, u27, u28, u29, u30, u31, u32, u33, u34, u35, u36, u37, u38, u39, u40, u41, u42, u43, u44, u45, u46, u47, u48, u49, u50, u51, u52, u53, rfl, rfl, H13⟩
     go_wp2_with fail
     simp only [Exit.jump]
     go_ret
     exact ⟨zX H13.out.symm, b0 _⟩
    go_wp2_with fail
    go_loopw [42] (fun k wr => ∃ j : Nat, k = .int .i64 j ∧ j ≤ x.length ∧ Hid (qQ l (KF l) x i = jS l (KF l) (x.drop j) i) ∧ Hid (Below w.heap.size w wr)) (fun k _ => x.length - (intOf k).toNat)
    case atStart => exact ⟨0, rfl, zLS _, HRX, zH (b0 w)⟩
    case round =>
     obtain ⟨j, rfl, hj, HE, HB⟩ := hrel
     by_cases hlj : j < x.length
     ·obtain ⟨tb, toff, rfl, htb, htc⟩ := HS.out.pos (by omega)
      obtain ⟨ka, _, kcap, kxs, g0, g1, g2, rfl, hks, hsl, hkid⟩ := HRW.out.get j hlj
      have hT : xS w x[j] [.int .i64 x[j].n, .string x[j].s, .slice ka x[j].kids.length kcap] := xS.mk' hks hsl hkid
      replace g0 := cb HB.out (htc _ _ g0); replace g1 := cb HB.out (htc _ _ g1); replace g2 := cb HB.out (htc _ _ g2)
      rw [← zLQ] at g1 g2
      have HNX := zH (zBG l (KF l) x i j hlj)
      have hsz : x[j].size < N := HX.out _ (zLP hlj)
      have HT := zH hT
      generalize x[j] = t at *
      clear htc hks hsl hkid hT
      go_wp2_with fail
      have hb2 := ba (b0 wr) (.cells #[.int .i64 t.n, .string t.s, .slice ka t.kids.length kcap] 57)
      refine (HV.out t hsz i hi ka kcap b3 _ (HF.out.below (bt HB.out hb2)) (xS.below (bt HB.out hb2) _ _ HT.out)).mono ?_
      rintro e w2 ⟨rfl, hb3⟩
      have HB2 := zH (bt (bt HB.out hb2) hb3)
      clear hb2 hb3
      generalize hft : yL l (KF l) t i = ft at *
      by_cases hz : ft = 0
      ·have HN2 : Hid (qQ l (KF l) x i = jS l (KF l) (x.drop (j + 1)) i) := zH (by rw [HE.out, HNX.out, if_neg (fun h => h hz)])
       have hzb : (ft == 0) = true := beq_iff_eq.2 hz
       clear HNX hft
       subst hz
       go_wp2_with fail
       go_roundw
       case rel => exact ⟨j + 1, by go_num, by omega, HN2, HB2⟩
       case measure => simp [intOf]; omega
      ·have HN2 : Hid (qQ l (KF l) x i = ft) := zH (by rw [HE.out, HNX.out, if_pos hz])
       have hzb : (ft == 0) = false := beq_eq_false_iff_ne.2 hz
       have hzb2 : (ft != 0) = true := by simp [hz]
       clear HNX hft hz
       go_wp2_with fail
       simp only [Exit.jump]
       go_ret
       exact ⟨zX HN2.out.symm, HB2.out⟩
     ·obtain rfl : j = x.length := by omega
      have HN2 : Hid (qQ l (KF l) x i = 0) := zH (by rw [HE.out, zLR]; rfl)
      clear hlj
      go_wp2_with fail
      simp only [Exit.jump]
      go_ret
      exact ⟨zX HN2.out.symm, HB.out⟩
set_option maxHeartbeats 4000000 in
set_option maxRecDepth 100000 in
theorem zGr (N : Nat) (l : List Fl) (hw : Wf l) (hA : zKP N l) : zFp (N + 1) l := by
 intro t ht i hi a cap b3 w hf hT
 obtain ⟨sa, n, scap, bk, hn, r3, hsl, hk⟩ := id hf
 obtain ⟨sb, soff, rfl, hsb, hsc⟩ := hsl.pos (by omega)
 obtain ⟨_, _, f2, _⟩ := yB l i hi
 replace f2 := hsc _ _ f2
 rw [← zLQ] at f2
 have q0 : w.cell? ⟨b3, 0, none⟩ = some (.slice (some ⟨sb, soff, none⟩) n scap) := r3.cell 0
 have q1 : w.cell? ⟨b3, 1, none⟩ = some (.slice (some ⟨bk, 0, none⟩) n n) := r3.cell 1
 obtain ⟨ak, ck, hk1, hk2⟩ := hk i (by omega)
 have hl3 := r3.lt
 have hlk : bk < w.heap.size := World.block_lt_of_cell? w ⟨bk, i, none⟩ hk1
 have HFl : Hid (jX l i = l[i]) := zH (by simp [jX, hi])
 have hkd := hw.kind l[i] (zLP hi)
 have HR : Hid (yL l (KF l) t i = if l[i].kind ≠ 0 then jM l[i].kind t else if t.n ≠ 0 ∨ t.s.toList ≠ [] ∨ t.kids.length ≠ (KF l i).length then 13 else zAi l (KF l) t.kids (KF l i)) := zH (by rw [zBg, HFl.out])
 generalize l[i].kind = kd at *
 have HF := zH hf; have HT := zH hT; have HAA := zH hA
 subst hn
 clear hsc hsl hk r3 hf hA
 by_cases hkz : kd = 0
 ·subst hkz
  have HR2 : Hid (yL l (KF l) t i = if t.n ≠ 0 ∨ t.s.toList ≠ [] ∨ t.kids.length ≠ (KF l i).length then 13 else zAi l (KF l) t.kids (KF l i)) := zH (by rw [HR.out, if_neg (fun h => h rfl)])
  clear HR
  change w.cell? ⟨bk, i, none⟩ = some (.slice ak (KF l i).length ck) at hk1
  change Sl _ w 1 ak (KF l i).length ck (zQ (KF l i)) at hk2
  generalize hjs : KF l i = js at *
  have HJ : Hid (∀ z ∈ js, 0 ≤ z ∧ z < l.length) := zH (by
   intro z hz; rw [← hjs] at hz
   have := zDw hz; rw [zW] at this; omega)
  have HK2 := zH hk2; clear hk2 hjs
  by_cases hn0 : t.n = 0
  ·by_cases hs0 : t.s.toList = []
   ·by_cases hm : t.kids.length = js.length
    ·have HRX : Hid (yL l (KF l) t i = zAi l (KF l) (t.kids.drop 0) (js.drop 0)) := zH (by rw [HR2.out, if_neg (by rintro (h | h | h); exact h hn0; exact h hs0; exact h hm)]; rfl)
     have hnb : (t.n != 0) = false := by simp [hn0]
     have hsb' : (!t.s.toList.isEmpty) = false := by rw [hs0]; rfl
     have hmb : ((t.kids.length : Int) != (js.length : Int)) = false := by simp [hm]
     obtain ⟨ta, tm, tcap, txs, hcs, htm, hts, htsl, htk⟩ := HT.out.parts
     simp at hcs
     obtain ⟨rfl, rfl, rfl⟩ := hcs
     have hmx := Nat.le_trans htsl.le htsl.max
     unfold maxLen at hmx
     have HSL := zH htsl; have HTK := zH htk; have HM := zH hm
     clear HR2 hn0 hs0 hm htsl htk
     go_enter Try.func72, Try.ntmps72
     go_wp2_with fail
     go_loopw [56] (fun k wr => ∃ j : Nat, k = .int .i64 j ∧ j ≤ t.kids.length ∧ Hid (yL l (KF l) t i = zAi l (KF l) (t.kids.drop j) (js.drop j)) ∧ Hid (Below w.heap.size w wr)) (fun k _ => t.kids.length - (intOf k).toNat)
     case atStart => exact ⟨0, rfl, zLS _, HRX, zH (ba (b0 w) _)⟩
     case round =>
      obtain ⟨j, rfl, hj, HE, HB⟩ := hrel
      by_cases hlj : j < t.kids.length
      ·have hjs : j < js.length := by have := HM.out; omega
       obtain ⟨tb, toff, rfl, htb, htc⟩ := HSL.out.pos (by omega)
       obtain ⟨xa, xcap, ys, g0, hxs, hxr⟩ := HTK.out.get j hlj
       replace g0 := cb HB.out (htc _ _ g0)
       obtain ⟨jb, joff, rfl, hjb, hjc⟩ := HK2.out.pos (by omega)
       have g1 := cb HB.out (hjc _ _ (zO js j hjs))
       have HNX := zH (zEO l (KF l) t.kids js j hlj hjs)
       have hszk : ∀ y ∈ t.kids[j], y.size < N := fun y hy => by have := zDO (zLP hlj) hy; omega
       have hjn := HJ.out js[j] (zLP hjs)
       generalize t.kids[j] = x at *
       obtain ⟨jn, hjne⟩ : ∃ jn : Nat, js[j] = (jn : Int) := ⟨js[j].toNat, by omega⟩
       rw [hjne] at g1 hjn HNX
       have hjn2 : jn < l.length := by omega
       have HXS := zH hxs; have HXR := zH hxr; have HSZ := zH hszk
       clear htc hjc hxs hxr hszk hjne hjn
       go_wp2_with fail
       refine (HAA.out x HSZ.out jn hjn2 xa xcap ys b3 _ (HF.out.below HB.out) (slb HXS.out HB.out) (yN.below HB.out _ _ HXR.out)).mono ?_
       rintro e w2 ⟨rfl, hb3⟩
       have HB2 := zH (bt HB.out hb3)
       clear hb3
       generalize qQ l (KF l) x jn = ft at *
       by_cases hz : ft = 0
       ·have HN2 : Hid (yL l (KF l) t i = zAi l (KF l) (t.kids.drop (j + 1)) (js.drop (j + 1))) := zH (by rw [HE.out, HNX.out, if_neg (fun h => h hz)])
        have hzb : (ft == 0) = true := beq_iff_eq.2 hz
        clear HNX
        subst hz
        go_wp2_with fail
        go_roundw
        case rel => exact ⟨j + 1, by go_num, by omega, HN2, HB2⟩
        case measure => simp [intOf]; omega
       ·have HN2 : Hid (yL l (KF l) t i = ft) := zH (by rw [HE.out, HNX.out, if_pos hz])
        have hzb : (ft == 0) = false := beq_eq_false_iff_ne.2 hz
        have hzb2 : (ft != 0) = true := by simp [hz]
        clear HNX hz
        go_wp2_with fail
        go_ret
        exact ⟨zX HN2.out.symm, HB2.out⟩
      ·obtain rfl : j = t.kids.length := by omega
       have HN2 : Hid (yL l (KF l) t i = 0) := zH (by rw [HE.out, zLR]; rfl)
       clear hlj
       go_wp2_with fail
       go_ret
       exact ⟨zX HN2.out.symm, HB.out⟩
    ·have H13 : Hid (yL l (KF l) t i = 13) := zH (by rw [HR2.out, if_pos (.inr (.inr hm))])
     have hnb : (t.n != 0) = false := by simp [hn0]
     have hsb' : (!t.s.toList.isEmpty) = false := by rw [hs0]; rfl
     have hmb : ((t.kids.length : Int) != (js.length : Int)) = true := by simp; omega
     have hmc : ((t.kids.length : Int) == (js.length : Int)) = false := beq_eq_false_iff_ne.2 (by omega)
     clear HR2 hn0 hs0 hm
     go_enter Try.func72, Try.ntmps72
     go_wp2_with fail
     go_ret
     exact ⟨zX H13.out.symm, ba (b0 w) _⟩
   ·have H13 : Hid (yL l (KF l) t i = 13) := zH (by rw [HR2.out, if_pos (.inr (.inl hs0))])
    have hnb : (t.n != 0) = false := by simp [hn0]
    have hsb' : (!t.s.toList.isEmpty) = true := by cases h : t.s.toList with | nil => exact absurd h hs0 | cons => rfl
    clear HR2 hn0 hs0
    go_enter Try.func72, Try.ntmps72
    go_wp2_with fail
    go_ret
    exact ⟨zX H13.out.symm, ba (b0 w) _⟩
  ·have H13 : Hid (yL l (KF l) t i = 13) := zH (by rw [HR2.out, if_pos (.inl hn0)])
   have hnb : (t.n != 0) = true := by simp [hn0]
   have hnc : (t.n == 0) = false := beq_eq_false_iff_ne.2 hn0
   clear HR2 hn0
   go_enter Try.func72, Try.ntmps72
   go_wp2_with fail
   go_ret
   exact ⟨zX H13.out.symm, ba (b0 w) _⟩
 ·have hkb : (kd == 0) = false := beq_eq_false_iff_ne.2 hkz
  have hkb2 : (kd != 0) = true := by simp [hkz]
  have hlf := fun w' => zK0 kd t a t.kids.length cap rfl w' (by omega) (by omega)
  have HR2 : Hid (yL l (KF l) t i = jM kd t) := zH (by rw [HR.out, if_pos hkz])
  have HLF := zH hlf
  clear HR hlf hkz hk1 hk2
  go_enter Try.func72, Try.ntmps72
  go_wp2_with fail
  have hbx := ba (b0 w) (.cells #[.int .i64 t.n, .string t.s, .slice a t.kids.length cap] 57)
  have r5 := Rw.new w #[.int .i64 t.n, .string t.s, .slice a t.kids.length cap] 57
  generalize hwx : w.alloc (.cells #[.int .i64 t.n, .string t.s, .slice a t.kids.length cap] 57) = wx at hbx r5 ⊢
  have p0 := cb hbx q0
  have p1 := cb hbx f2
  clear hwx
  refine zF (fun w' => w'.cell? ⟨b3, 0, none⟩ = some (.slice (some ⟨sb, soff, none⟩) l.length scap) ∧ w'.cell? ⟨sb, soff + i * 4 + 2, none⟩ = some (.int .i64 kd) ∧ Rw w' w.heap.size #[.int .i64 t.n, .string t.s, .slice a t.kids.length cap] 57) [10] (by kernel_rfl) ?g15rgS (fun hHeld => ?g15rgR)
  case g15rgS => (try dsimp only); (first | exact ⟨p0, p1, r5.drew⟩ | exact ⟨cb hb9 hHeld.1, cb hb9 hHeld.2.1, hHeld.2.2.below hb9⟩)
  try dsimp only at hHeld
  refine zD [0, 1, 2, 3, 4, 5, 6, 7, 8] 2 (by kernel_rfl) (fun _ _ _ _ _ h => h) (by assumption) ?_
  iterate 9 ((apply YA.take rfl (by rfl); case hy => intro wS hSw; (obtain ⟨g1, g2, g3⟩ := hSw); (have z0 : wS.cell? ⟨w.heap.size, 0, none⟩ = some (.int .i64 t.n) := g3.cell 0); (have z1 : wS.cell? ⟨w.heap.size, 1, none⟩ = some (.string t.s) := g3.cell 1); (have z2 : wS.cell? ⟨w.heap.size, 2, none⟩ = some (.slice a t.kids.length cap) := g3.cell 2); go_simp; try with_reducible rfl); try simp only [pD])
  refine YA.nil ?_
  refine zB [9] (by kernel_rfl) (by simp) ?_
  refine zA.con 9 rfl (fun K hK => ?g15ro1) ?g15rm1
  case g15rm1 => exact zA.nil
  go_simp; refine (HLF.out _).mono ?_; rintro e w9 ⟨rfl, hb9⟩; dsimp only
  refine hK.out _ _ ?g15rs1 (fun hHeld => ?g15rt1)
  case g15rs1 => (try dsimp only); (first | exact ⟨p0, p1, r5.drew⟩ | exact ⟨cb hb9 hHeld.1, cb hb9 hHeld.2.1, hHeld.2.2.below hb9⟩)
  try dsimp only at hHeld
  clear hK K
  try simp only [pD]
  refine zB [10] (by kernel_rfl) (by simp) ?_
  refine zA.lst 10 rfl (by kernel_rfl) (fun K hK => ?g15ro2) ?g15rm2
  case g15rm2 => exact zA.nil
  go_simp
  refine hK.out _ _ ?_
  clear hK K
  try simp only [pD]
  refine zE (by kernel_rfl) ?_
  go_wp2_with fail
  go_ret
  exact ⟨zX HR2.out.symm, bt hbx.drew hb9⟩
theorem zJA (l : List Fl) (hw : Wf l) : ∀ N, zFp N l
 | 0 => fun _ h => absurd h (Nat.not_lt_zero _)
 | N + 1 => zGr N l hw (zJm N l hw (zJA l hw N))
theorem zLd (l : List Fl) (hw : Wf l) (t : Tr) (sa : Option Addr) (sn scap : Nat) (a : Option Addr) (cap : Nat) (w : World) (hs : Sl (fun b => b < w.heap.size) w 4 sa sn scap (fls l)) (hT : xS w t [.int .i64 t.n, .string t.s, .slice a t.kids.length cap]) :
  Calls Try.prog 64 #[.slice sa sn scap, .agg #[.int .i64 t.n, .string t.s, .slice a t.kids.length cap]] w fun e w' => e = .returned (.int .i64 (yL l (KF l) t 0)) ∧ Below w.heap.size w w' := by
 have hlen : l.length = sn := by have := hs.len; rw [wG] at this; omega
 have hw1 := hw.len; have hw2 := hw.pos
 have hnz : ((sn : Int) == 0) = false := beq_eq_false_iff_ne.2 (by omega)
 have HS := zH hs; have HT := zH hT; clear hs hT
 go_enter Try.func64, Try.ntmps64
 go_wp2_with fail
 have hbx := ba (b0 w) (.cells #[.int .i64 t.n, .string t.s, .slice a t.kids.length cap] 57)
 have r3 := Rw.new w #[.int .i64 t.n, .string t.s, .slice a t.kids.length cap] 57
 generalize w.alloc (.cells #[.int .i64 t.n, .string t.s, .slice a t.kids.length cap] 57) = wx at hbx r3 ⊢
 have HBX := zH hbx
 refine zF (fun w' => Rw w' w.heap.size #[.int .i64 t.n, .string t.s, .slice a t.kids.length cap] 57) [4] (by kernel_rfl) ?g16rgS (fun hHeld => ?g16rgR)
 case g16rgS => (try dsimp only); (first | exact r3.drew | exact hHeld.below hb1 | exact hHeld.below hb3)
 try dsimp only at hHeld
 refine zD [0, 2] 3 (by kernel_rfl) (fun _ _ _ _ _ h => h) (by assumption) ?_
 iterate 2 ((apply YA.take rfl (by rfl); case hy => intro wS hSw; (have z0 : wS.cell? ⟨w.heap.size, 0, none⟩ = some (.int .i64 t.n) := hSw.cell 0); (have z1 : wS.cell? ⟨w.heap.size, 1, none⟩ = some (.string t.s) := hSw.cell 1); (have z2 : wS.cell? ⟨w.heap.size, 2, none⟩ = some (.slice a t.kids.length cap) := hSw.cell 2); go_simp; try with_reducible rfl); try simp only [pD])
 refine YA.nil ?_
 refine zB [1] (by kernel_rfl) (by simp) ?_
 refine zA.con 1 rfl (fun K hK => ?g16ro1) ?g16rm1
 case g16rm1 => exact zA.nil
 go_simp; refine (zK6 sa sn scap l _ (slb HS.out HBX.out.drew) (by omega) hw.kids).mono ?_; rintro e w1 ⟨b3, rfl, hfit, hb1⟩; dsimp only
 refine hK.out _ _ ?g16rs1 (fun hHeld => ?g16rt1)
 case g16rs1 => (try dsimp only); (first | exact r3.drew | exact hHeld.below hb1 | exact hHeld.below hb3)
 try dsimp only at hHeld
 clear hK K
 try simp only [pD]
 refine zB [3] (by kernel_rfl) (by simp) ?_
 refine zA.con 3 rfl (fun K hK => ?g16ro2) ?g16rm2
 case g16rm2 => exact zA.nil
 go_simp; refine (zJA l hw (t.size + 1) t (by omega) 0 (by omega) a cap b3 _ hfit (xS.below (bt HBX.out.drew hb1) _ _ HT.out)).mono ?_; rintro e w3 ⟨rfl, hb3⟩; dsimp only
 refine hK.out _ _ ?g16rs2 (fun hHeld => ?g16rt2)
 case g16rs2 => (try dsimp only); (first | exact r3.drew | exact hHeld.below hb1 | exact hHeld.below hb3)
 try dsimp only at hHeld
 clear hK K
 try simp only [pD]
 refine zB [4] (by kernel_rfl) (by simp) ?_
 refine zA.lst 4 rfl (by kernel_rfl) (fun K hK => ?g16ro3) ?g16rm3
 case g16rm3 => exact zA.nil
 go_simp
 refine hK.out _ _ ?_
 clear hK K
 try simp only [pD]
 refine zE (by kernel_rfl) ?_
 go_wp2_with fail
 go_ret
 exact ⟨rfl, bt (bt HBX.out.drew hb1) hb3⟩
end Go.Proofs.Ytjbkjfefjhbolaa
