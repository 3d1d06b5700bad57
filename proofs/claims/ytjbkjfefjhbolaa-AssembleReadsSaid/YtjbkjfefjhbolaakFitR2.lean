import Derived.Test.YtjbkjfefjhbolaakMake8
set_option linter.all false
open List renaming getElem_mem → zLP, drop_eq_nil_of_le → zLQ
open Nat renaming add_assoc → zLR
namespace Go.Proofs.Ytjbkjfefjhbolaa
open Go.RowKit Go.Shr
set_option maxHeartbeats 4000000 in
theorem zJT (kind : Int) (t : Tr) (a : Option Addr) (m cap : Nat) (hm : m = t.kids.length) (w : World) (h1 : 1 ≤ kind) (h4 : kind ≤ 4) (hsx : t.s.size ≤ maxLen) :
  Calls Try.prog 55 #[.int .i64 kind, .agg #[.int .i64 t.n, .string t.s, .slice a m cap]] w fun e w' => e = .returned (.int .i64 (jM kind t)) ∧ Below w.heap.size w w' := by
 obtain ⟨n, s, ks⟩ := t
 simp only [Tr.n, Tr.s, Tr.kids] at *
 unfold maxLen at hsx
 have HE : Hid (jM kind (.mk n s ks) = if 0 < m ∨ (kind = 4 ∧ n ≠ 0) ∨ (kind ≠ 4 ∧ s.toList ≠ []) then 13
  else if kind = 1 then (if n < 0 ∨ 1 < n then 14 else 0) else if kind = 2 then (if n < -2147483648 ∨ 2147483647 < n then 14 else 0) else if kind = 3 then 0 else if 100 < s.size then 5 else 0) := zH (by rw [hm]; rfl)
 clear hm
 generalize jM kind (.mk n s ks) = R at *
 have hk : kind = 1 ∨ kind = 2 ∨ kind = 3 ∨ kind = 4 := by omega
 by_cases hm : 0 < m
 ·have HR : Hid (R = 13) := zH (by rw [HE.out, if_pos (.inl hm)])
  clear HE
  go_enter Try.func55, Try.ntmps55
  go_wp2_with fail
  go_ret
  exact ⟨zX HR.out.symm, by repeat (first | with_reducible exact Below.refl _ _ | refine ba ?_ _)⟩
 obtain rfl : m = 0 := by omega
 clear hm
 have hsl := zE6 s
 have hs0 : (s.size ≤ 100 ∧ s.toList = [] ∧ (!s.toList.isEmpty) = false) ∨ (s.toList ≠ [] ∧ (!s.toList.isEmpty) = true) := by
  by_cases h : s.toList = []
  ·exact .inl ⟨by rw [h] at hsl; simp at hsl; omega, h, by rw [h]; rfl⟩
  ·exact .inr ⟨h, by cases hc : s.toList with | nil => exact absurd hc h | cons => rfl⟩
 rcases hk with rfl | rfl | rfl | rfl
 ·rcases hs0 with ⟨hz, hs, hse⟩ | ⟨hs, hse⟩
  ·have HR : Hid (R = if n < 0 ∨ 1 < n then 14 else 0) := zH (by rw [HE.out]; simp [hs])
   clear HE hsl hs
   have hn : n < 0 ∨ 1 < n ∨ (0 ≤ n ∧ n ≤ 1) := by omega
   rcases hn with hn | hn | ⟨hn, hn'⟩
   ·replace HR : Hid (R = 14) := zH (by rw [HR.out, if_pos (.inl hn)])
    go_enter Try.func55, Try.ntmps55
    go_wp2_with fail
    go_ret
    exact ⟨zX HR.out.symm, by repeat (first | with_reducible exact Below.refl _ _ | refine ba ?_ _)⟩
   ·replace HR : Hid (R = 14) := zH (by rw [HR.out, if_pos (.inr hn)])
    go_enter Try.func55, Try.ntmps55
    go_wp2_with fail
    go_ret
    exact ⟨zX HR.out.symm, by repeat (first | with_reducible exact Below.refl _ _ | refine ba ?_ _)⟩
   ·replace HR : Hid (R = 0) := zH (by rw [HR.out, if_neg (by omega)])
    go_enter Try.func55, Try.ntmps55
    go_wp2_with fail
    go_ret
    exact ⟨zX HR.out.symm, by repeat (first | with_reducible exact Below.refl _ _ | refine ba ?_ _)⟩
  ·have HR : Hid (R = 13) := zH (by rw [HE.out, if_pos (.inr (.inr ⟨by decide, hs⟩))])
   clear HE hsl hs
   go_enter Try.func55, Try.ntmps55
   go_wp2_with fail
   go_ret
   exact ⟨zX HR.out.symm, by repeat (first | with_reducible exact Below.refl _ _ | refine ba ?_ _)⟩
 ·rcases hs0 with ⟨hz, hs, hse⟩ | ⟨hs, hse⟩
  ·have HR : Hid (R = if n < -2147483648 ∨ 2147483647 < n then 14 else 0) := zH (by rw [HE.out]; simp [hs])
   clear HE hsl hs
   have hn : n < -2147483648 ∨ 2147483647 < n ∨ (-2147483648 ≤ n ∧ n ≤ 2147483647) := by omega
   rcases hn with hn | hn | ⟨hn, hn'⟩
   ·replace HR : Hid (R = 14) := zH (by rw [HR.out, if_pos (.inl hn)])
    go_enter Try.func55, Try.ntmps55
    go_wp2_with fail
    go_ret
    exact ⟨zX HR.out.symm, by repeat (first | with_reducible exact Below.refl _ _ | refine ba ?_ _)⟩
   ·replace HR : Hid (R = 14) := zH (by rw [HR.out, if_pos (.inr hn)])
    go_enter Try.func55, Try.ntmps55
    go_wp2_with fail
    go_ret
    exact ⟨zX HR.out.symm, by repeat (first | with_reducible exact Below.refl _ _ | refine ba ?_ _)⟩
   ·replace HR : Hid (R = 0) := zH (by rw [HR.out, if_neg (by omega)])
    go_enter Try.func55, Try.ntmps55
    go_wp2_with fail
    go_ret
    exact ⟨zX HR.out.symm, by repeat (first | with_reducible exact Below.refl _ _ | refine ba ?_ _)⟩
  ·have HR : Hid (R = 13) := zH (by rw [HE.out, if_pos (.inr (.inr ⟨by decide, hs⟩))])
   clear HE hsl hs
   go_enter Try.func55, Try.ntmps55
   go_wp2_with fail
   go_ret
   exact ⟨zX HR.out.symm, by repeat (first | with_reducible exact Below.refl _ _ | refine ba ?_ _)⟩
 ·rcases hs0 with ⟨hz, hs, hse⟩ | ⟨hs, hse⟩
  ·have HR : Hid (R = 0) := zH (by rw [HE.out]; simp [hs])
   clear HE hsl hs
   go_enter Try.func55, Try.ntmps55
   go_wp2_with fail
   go_ret
   exact ⟨zX HR.out.symm, by repeat (first | with_reducible exact Below.refl _ _ | refine ba ?_ _)⟩
  ·have HR : Hid (R = 13) := zH (by rw [HE.out, if_pos (.inr (.inr ⟨by decide, hs⟩))])
   clear HE hsl hs
   go_enter Try.func55, Try.ntmps55
   go_wp2_with fail
   go_ret
   exact ⟨zX HR.out.symm, by repeat (first | with_reducible exact Below.refl _ _ | refine ba ?_ _)⟩
 ·by_cases hn : n = 0
  ·subst hn
   by_cases hz : 100 < s.size
   ·have HR : Hid (R = 5) := zH (by rw [HE.out]; simp [hz])
    clear HE hsl hs0
    go_enter Try.func55, Try.ntmps55
    go_wp2_with fail
    go_ret
    exact ⟨zX HR.out.symm, by repeat (first | with_reducible exact Below.refl _ _ | refine ba ?_ _)⟩
   ·have HR : Hid (R = 0) := zH (by rw [HE.out]; simp [hz])
    clear HE hsl hs0
    go_enter Try.func55, Try.ntmps55
    go_wp2_with fail
    go_ret
    exact ⟨zX HR.out.symm, by repeat (first | with_reducible exact Below.refl _ _ | refine ba ?_ _)⟩
  ·have HR : Hid (R = 13) := zH (by rw [HE.out, if_pos (.inr (.inl ⟨rfl, hn⟩))])
   have hnb : (n == 0) = false := beq_eq_false_iff_ne.2 hn
   have hnb2 : (n != 0) = true := by simp [hn]
   clear HE hn hsl hs0
   go_enter Try.func55, Try.ntmps55
   go_wp2_with fail
   go_ret
   exact ⟨zX HR.out.symm, by repeat (first | with_reducible exact Below.refl _ _ | refine ba ?_ _)⟩
def zG8 (N : Nat) (l : List Fl) : Prop := ∀ (t : Tr), t.size < N → ∀ (i : Nat), i < l.length → ∀ (sa pa : Option Addr) (sc pc : Nat) (a : Option Addr) (cap : Nat) (w : World), Sl (fun b => b < w.heap.size) w 4 sa l.length sc (fls l) → Sl (fun b => b < w.heap.size) w 1 pa l.length pc (zQ (par l)) → xS w t [.int .i64 t.n, .string t.s, .slice a t.kids.length cap] →
 Calls Try.prog 35 #[.slice sa l.length sc, .slice pa l.length pc, .int .i64 (i : Int), .agg #[.int .i64 t.n, .string t.s, .slice a t.kids.length cap]] w fun e w' => e = .returned (.int .i64 (yL l (KF l) t i)) ∧ Below w.heap.size w w'
theorem zIf {α : Type} {js : List α} {k : Nat} {x : α} {r : List α} (h : js.drop k = x :: r) : ∃ hk : k < js.length, js[k] = x ∧ js.drop (k + 1) = r := by
 have hk : k < js.length := by
  rcases Nat.lt_or_ge k js.length with h1 | h1
  ·exact h1
  ·rw [zLQ h1] at h; cases h
 rw [List.drop_eq_getElem_cons hk] at h
 injection h with h1 h2
 exact ⟨hk, h1, h2⟩
set_option maxHeartbeats 8000000 in
set_option maxRecDepth 100000 in
theorem zHV (N : Nat) (l : List Fl) (hw : Wf l) (hG : ∀ (i : Nat) (h : i < l.length), l[i].kind = 0 → l[i].kids = ((KF l i).length : Int)) (IH : zG8 N l) : zG8 (N + 1) l := by
 intro t hN i hi sa pa sc pc a cap w hs hp hT
 obtain ⟨_, _, _, xs, hcs, hm, hss, hsl, hk⟩ := id hT.parts
 simp at hcs
 obtain ⟨rfl, rfl, rfl⟩ := hcs
 have hmx := Nat.le_trans hsl.le hsl.max
 unfold maxLen at hmx
 have hl1 := hw.len
 obtain ⟨sb, soff, rfl, hsb, hsc⟩ := hs.pos (by omega)
 obtain ⟨_, _, f2, f3⟩ := yB l i hi
 replace f2 := hsc _ _ f2
 replace f3 := hsc _ _ f3
 rw [← zLR] at f2 f3
 have HFl : Hid (jX l i = l[i]) := zH (by simp [jX, hi])
 have hkd := hw.kind l[i] (zLP hi)
 have hgi := hG i hi
 have HR : Hid (yL l (KF l) t i = if l[i].kind ≠ 0 then jM l[i].kind t else if t.n ≠ 0 ∨ t.s.toList ≠ [] ∨ t.kids.length ≠ (KF l i).length then 13 else zAi l (KF l) t.kids (KF l i)) := zH (by rw [zBg, HFl.out])
 generalize l[i].kind = kd at *
 generalize l[i].kids = kn at *
 have HS := zH hs; have HP := zH hp; have HT := zH hT; have HIH := zH IH; have HSL := zH hsl; have HK := zH hk
 have HWF := zH hw; have HSC := zH hsc
 clear hs hp hT IH hsl hk hm hG hw hsc
 by_cases hkz : kd = 0
 ·subst hkz
  have hkn := hgi rfl
  have HR2 : Hid (yL l (KF l) t i = if t.n ≠ 0 ∨ t.s.toList ≠ [] ∨ t.kids.length ≠ (KF l i).length then 13 else zAi l (KF l) t.kids (KF l i)) := zH (by rw [HR.out, if_neg (fun h => h rfl)])
  clear HR hgi HFl
  subst hkn
  have HJS : Hid (rest (par l) i (i + 1) = KF l i) := zH (by
   rw [wD (fun j hj => (yI l j hj).2), ← wJ]; rfl)
  generalize KF l i = js at *
  by_cases hn0 : t.n = 0
  ·by_cases hs0 : t.s.toList = []
   ·by_cases hm : t.kids.length = js.length
    ·have HRX : Hid (yL l (KF l) t i = zAi l (KF l) (t.kids.drop 0) (js.drop 0)) := zH (by rw [HR2.out, if_neg (by rintro (h | h | h); exact h hn0; exact h hs0; exact h hm)]; rfl)
     have hnb : (t.n != 0) = false := by simp [hn0]
     have hsb' : (!t.s.toList.isEmpty) = false := by rw [hs0]; rfl
     have hmb : ((t.kids.length : Int) != (js.length : Int)) = false := by simp [hm]
     have HM := zH hm
     clear HR2 hn0 hs0 hm
     go_enter Try.func35, Try.ntmps35
     go_wp2_with fail
     have hbx := ba (b0 w) (.cells #[.int .i64 t.n, .string t.s, .slice a t.kids.length cap] 57)
     have r5 := Rw.new w #[.int .i64 t.n, .string t.s, .slice a t.kids.length cap] 57
     generalize w.alloc (.cells #[.int .i64 t.n, .string t.s, .slice a t.kids.length cap] 57) = wx at hbx r5 ⊢
     have p1 := cb hbx f3
     have hi0 : (0 : Int) ≤ (i : Int) := by omega
     have hi1 : (i : Int) < (l.length : Int) := by omega
     refine zF (fun w' => w'.cell? ⟨sb, soff + i * 4 + 3, none⟩ = some (.int .i64 (js.length : Int)) ∧ Rw w' w.heap.size #[.int .i64 t.n, .string t.s, .slice a t.kids.length cap] 57) [] (by decide +kernel) ?g28rgS (fun hHeld => ?g28rgR)
     case g28rgS => (try dsimp only); (exact ⟨p1, r5.drew⟩)
     try dsimp only at hHeld
     repeat' first
      | exact zA.nil
      | (refine zD [0, 1, 2, 3, 4, 5, 6, 7, 8, 9, 10, 11, 12, 13, 14, 15, 16, 17, 18] 0 (by decide +kernel) (fun _ _ _ _ _ h => h) (by assumption) ?_; (iterate 19 ((first | (refine YA.skip rfl (by rfl) ?_) | (apply YA.take rfl (by rfl); case hy => intro wS hSw; (obtain ⟨g2, g3⟩ := hSw); (have z0 : wS.cell? ⟨w.heap.size, 0, none⟩ = some (.int .i64 t.n) := g3.cell 0); (have z1 : wS.cell? ⟨w.heap.size, 1, none⟩ = some (.string t.s) := g3.cell 1); (have z2 : wS.cell? ⟨w.heap.size, 2, none⟩ = some (.slice a t.kids.length cap) := g3.cell 2); go_simp; try with_reducible rfl)); try simp only [pD])); refine YA.nil ?_)
      | (refine zE (by decide +kernel) ?_)
     clear hnb hsb' hmb p1 f2 f3
     have HBX := zH hbx.drew
     have HZ2 : Hid (wx.drew.cell? ⟨w.heap.size, 2, none⟩ = some (.slice a t.kids.length cap)) := zH (r5.drew.cell 2)
     clear hbx r5 hHeld
     go_wp2_with fail
     go_loopw [9, 10] (fun nv iv wr => ∃ (jn ji : Nat), nv = .int .i64 (jn : Int) ∧ iv = .int .i64 (ji : Int) ∧ ji ≤ l.length ∧ jn ≤ t.kids.length ∧ Hid (rest (par l) i ji = js.drop jn) ∧ Hid (yL l (KF l) t i = zAi l (KF l) (t.kids.drop jn) (js.drop jn)) ∧ Hid (Below w.heap.size w wr) ∧ Hid (wr.cell? ⟨w.heap.size, 2, none⟩ = some (.slice a t.kids.length cap))) (fun _ iv _ => l.length - (intOf iv).toNat)
     case atStart => exact ⟨0, i + 1, rfl, by go_num, hi, Nat.zero_le _, zH HJS.out, HRX, HBX, HZ2⟩
     case round =>
      clear HRX HJS HBX HZ2
      obtain ⟨jn, ji, rfl, rfl, hji, hjn, HRE, HE, HB, HZ⟩ := hrel
      have z2 := HZ.out
      by_cases hlt : ji < l.length
      ·have hjP : ji < (par l).length := by rw [zW]; exact hlt
       obtain ⟨pb, poff, rfl, hpb, hpc⟩ := HP.out.pos (by omega)
       have c0 := cb HB.out (hpc _ _ (zO (par l) ji hjP))
       have hbd := yI l ji hjP
       clear hpc
       by_cases hp : (par l)[ji] = (i : Int)
       ·have hry := zAU hjP hp
        rw [HRE.out] at hry
        obtain ⟨hjl, hjj, hre2⟩ := zIf hry
        have hmk : jn < t.kids.length := by have := HM.out; omega
        have HND := zH (zEO l (KF l) t.kids js jn hmk hjl)
        rw [hjj] at HND
        obtain ⟨xb, xoff, rfl, hxb, hxc⟩ := HSL.out.pos (by omega)
        obtain ⟨la, lcap, ys, g0, hys, hrow⟩ := HK.out.get jn hmk
        replace g0 := cb HB.out (hxc _ _ g0)
        have hmem : ∀ y ∈ t.kids[jn], y.size < N := fun y hy => by have := zDO (zLP hmk) hy; omega
        have hmy := Nat.le_trans hys.le hys.max
        unfold maxLen at hmy
        have hf1 := (yB l ji hlt).2.1
        replace hf1 := cb HB.out (HSC.out _ _ hf1)
        rw [← zLR] at hf1
        have HFA : Hid (qQ l (KF l) t.kids[jn] (ji : Int) = if qN l[ji].rep t.kids[jn].length ≠ 0 then qN l[ji].rep t.kids[jn].length else jS l (KF l) t.kids[jn] (ji : Int)) := zH (by
         have h : jX l (ji : Int) = l[ji] := by simp [jX, hlt]
         rw [qQ, h])
        generalize t.kids[jn] = x at *
        generalize l[ji].rep = rp at *
        rw [hp] at c0 hbd
        have HYS := zH hys; have HROW := zH hrow; have HMEM := zH hmem; have HRE2 := zH hre2
        clear hxc hys hrow hmem hre2 hry hjj hp
        go_upto_block 2 with fail
        go_cut [12] from 67 to 95 (fun v12 wc => Hid (qN rp x.length = 0) ∧ wr = wc)
        case first =>
         have hE4 : ∀ v : Int, qN rp x.length = v → v ≠ 0 → yL l (KF l) t i = v := fun v h h0 => by
          have h1 : qQ l (KF l) x (ji : Int) = v := by rw [HFA.out, h, if_pos h0]
          rw [HE.out, HND.out, h1, if_pos h0]
         have HE4 := zH hE4
         clear hE4
         by_cases h2 : rp = 2
         ·by_cases h50 : 50 < x.length
          ·have H4 := zH (HE4.out 4 (by subst h2; unfold qN; rw [if_neg (by omega), if_pos h50]) (by decide))
           subst h2
           go_wp2_with fail
           go_ret
           exact ⟨zX H4.out.symm, HB.out⟩
          ·have H0 : Hid (qN rp x.length = 0) := zH (by subst h2; unfold qN; rw [if_neg (by omega), if_neg h50])
           subst h2
           go_wp2_with fail
           go_meet
           case rel => exact ⟨H0, rfl⟩
         ·have hb1 : (rp != 2) = true := by simp [h2]
          have hb2 : (rp == 2) = false := beq_eq_false_iff_ne.2 h2
          by_cases h1 : 1 < x.length
          ·have H4 := zH (HE4.out 13 (by unfold qN; rw [if_pos (.inl ⟨h2, h1⟩)]) (by decide))
           clear h2
           go_wp2_with fail
           go_ret
           exact ⟨zX H4.out.symm, HB.out⟩
          ·by_cases h0 : rp = 0
           ·by_cases hx0 : x.length = 0
            ·have H4 := zH (HE4.out 13 (by unfold qN; rw [if_pos (.inr ⟨h0, hx0⟩)]) (by decide))
             have hl1 : ((x.length : Int) != 1) = true := by simp [hx0]
             have hb3 : (rp == 0) = true := beq_iff_eq.2 h0
             clear h2 h0 hx0
             go_wp2_with fail
             go_ret
             exact ⟨zX H4.out.symm, HB.out⟩
            ·have H0 : Hid (qN rp x.length = 0) := zH (by unfold qN; rw [if_neg (by omega), if_neg (by omega)])
             have hl1 : ((x.length : Int) != 1) = false := by simp; omega
             have hb3 : (rp == 0) = true := beq_iff_eq.2 h0
             have hx50 : x.length ≤ 50 := by omega
             clear h2 h0 hx0
             go_wp2_with fail
             go_meet
             case rel => exact ⟨H0, rfl⟩
           ·have H0 : Hid (qN rp x.length = 0) := zH (by unfold qN; rw [if_neg (by omega), if_neg (by omega)])
            have hb3 : (rp == 0) = false := beq_eq_false_iff_ne.2 h0
            have hx50 : x.length ≤ 50 := by omega
            clear h2 h0
            go_wp2_with fail
            go_meet
            case rel => exact ⟨H0, rfl⟩
        case rest =>
         obtain ⟨H0, rfl⟩ := hcut
         have HE2 : Hid (yL l (KF l) t i = if jS l (KF l) (x.drop 0) (ji : Int) ≠ 0 then jS l (KF l) (x.drop 0) (ji : Int) else zAi l (KF l) (t.kids.drop (jn + 1)) (js.drop (jn + 1))) := zH (by
          rw [HE.out, HND.out, HFA.out, H0.out]; rfl)
         clear HE HND HFA H0 c0 hf1 g0 z2
         go_wp2_with fail
         obtain ⟨wo, rfl⟩ : ∃ wo : World, wo = wr := ⟨_, rfl⟩
         go_loopw [12] (fun kv wr => ∃ k : Nat, kv = .int .i64 (k : Int) ∧ k ≤ x.length ∧ Hid (yL l (KF l) t i = if jS l (KF l) (x.drop k) (ji : Int) ≠ 0 then jS l (KF l) (x.drop k) (ji : Int) else zAi l (KF l) (t.kids.drop (jn + 1)) (js.drop (jn + 1))) ∧ Hid (Below w.heap.size w wr) ∧ Hid (wr.cell? ⟨w.heap.size, 2, none⟩ = some (.slice (some ⟨xb, xoff, none⟩) t.kids.length cap))) (fun kv _ => x.length - (intOf kv).toNat)
         case atStart => exact ⟨0, rfl, Nat.zero_le _, HE2, HB, HZ⟩
         case round =>
          clear HE2
          obtain ⟨k, rfl, hk, HE3, HB3, HZ3⟩ := hrel
          by_cases hkl : k < x.length
          ·obtain ⟨yb, yoff, rfl, hyb, hyc⟩ := HYS.out.pos (by omega)
           obtain ⟨ka, _, kcap, kxs, v0, v1, v2, rfl, hks, hsl, hkid⟩ := HROW.out.get k hkl
           have hTk : xS w x[k] [.int .i64 x[k].n, .string x[k].s, .slice ka x[k].kids.length kcap] := xS.mk' hks hsl hkid
           replace v0 := cb HB3.out (hyc _ _ v0); replace v1 := cb HB3.out (hyc _ _ v1); replace v2 := cb HB3.out (hyc _ _ v2)
           rw [← zLR] at v1 v2
           have HDL := zH (zBG l (KF l) x (ji : Int) k hkl)
           have hsz3 : x[k].size < N := HMEM.out _ (zLP hkl)
           have HT2 := zH hTk
           generalize x[k] = q at *
           clear hyc hks hsl hkid hTk
           go_wp2_with fail
           refine (HIH.out q hsz3 ji hlt (some ⟨sb, soff, none⟩) (some ⟨pb, poff, none⟩) sc pc ka kcap wr (slb HS.out HB3.out) (slb HP.out HB3.out) (xS.below HB3.out _ _ HT2.out)).mono ?_
           rintro e w4 ⟨rfl, hb4⟩
           have HB5 := zH (bt HB3.out hb4)
           have HZ5 := zH (cb hb4 HZ3.out)
           clear hb4 v0 v1 v2
           generalize yL l (KF l) q (ji : Int) = ft at *
           by_cases hz : ft = 0
           ·have HE5 : Hid (yL l (KF l) t i = if jS l (KF l) (x.drop (k + 1)) (ji : Int) ≠ 0 then jS l (KF l) (x.drop (k + 1)) (ji : Int) else zAi l (KF l) (t.kids.drop (jn + 1)) (js.drop (jn + 1))) := zH (by
             have e : jS l (KF l) (x.drop k) (ji : Int) = jS l (KF l) (x.drop (k + 1)) (ji : Int) := by rw [HDL.out, if_neg (fun h => h hz)]
             rw [HE3.out, e])
            clear HE3 HDL
            subst hz
            go_wp2_with fail
            go_roundw
            case rel => exact ⟨k + 1, by go_num, by omega, HE5, HB5, HZ5⟩
            case measure => simp [intOf]; omega
           ·have HE5 : Hid (yL l (KF l) t i = ft) := zH (by
             have e : jS l (KF l) (x.drop k) (ji : Int) = ft := by rw [HDL.out, if_pos hz]
             rw [HE3.out, e, if_pos hz])
            have hb1 : (ft != 0) = true := by simp [hz]
            have hb2 : (ft == 0) = false := beq_eq_false_iff_ne.2 hz
            clear HE3 HDL hz
            go_wp2_with fail
            go_ret
            exact ⟨zX HE5.out.symm, HB5.out⟩
          ·obtain rfl : k = x.length := by omega
           have HE5 : Hid (yL l (KF l) t i = zAi l (KF l) (t.kids.drop (jn + 1)) (js.drop (jn + 1))) := zH (by
            rw [HE3.out, List.drop_length]; simp [jS])
           clear HE3 hk
           go_wp2_with fail
           go_roundw
           case rel => exact ⟨jn + 1, ji + 1, by go_num, by go_num, by omega, by omega, zH HRE2.out.symm, HE5, HB3, HZ3⟩
           case measure => simp [intOf]; omega
       ·have HRN : Hid (rest (par l) i (ji + 1) = js.drop jn) := zH (by rw [← zBK hjP hp]; exact HRE.out)
        have hpb1 : ((par l)[ji] != (i : Int)) = true := by simp [hp]
        have hpb2 : ((par l)[ji] == (i : Int)) = false := beq_eq_false_iff_ne.2 hp
        generalize (par l)[ji] = y at *
        clear hp
        go_wp2_with fail
        go_roundw
        case rel => exact ⟨jn, ji + 1, rfl, by go_num, by omega, hjn, HRN, HE, HB, HZ⟩
        case measure => simp [intOf]; omega
      ·obtain rfl : ji = l.length := by omega
       have hnil : js.drop jn = [] := by
        rw [← HRE.out, zAV (by rw [zW]; exact Nat.le_refl _)]
       have hjl : js.length ≤ jn := by
        have := congrArg List.length hnil; simp at this; omega
       have HE2 : Hid (yL l (KF l) t i = 0) := zH (by
        rw [HE.out, zLQ (by have := HM.out; omega)]; simp [zAi])
       clear hnil
       go_wp2_with fail
       go_ret
       exact ⟨zX HE2.out.symm, HB.out⟩
    ·have H13 : Hid (yL l (KF l) t i = 13) := zH (by rw [HR2.out, if_pos (.inr (.inr hm))])
     have hnb : (t.n != 0) = false := by simp [hn0]
     have hsb' : (!t.s.toList.isEmpty) = false := by rw [hs0]; rfl
     have hmb : ((t.kids.length : Int) != (js.length : Int)) = true := by simp; omega
     have hmc : ((t.kids.length : Int) == (js.length : Int)) = false := beq_eq_false_iff_ne.2 (by omega)
     clear HR2 hn0 hs0 hm
     go_enter Try.func35, Try.ntmps35
     go_wp2_with fail
     have hbx := ba (b0 w) (.cells #[.int .i64 t.n, .string t.s, .slice a t.kids.length cap] 57)
     have r5 := Rw.new w #[.int .i64 t.n, .string t.s, .slice a t.kids.length cap] 57
     generalize w.alloc (.cells #[.int .i64 t.n, .string t.s, .slice a t.kids.length cap] 57) = wx at hbx r5 ⊢
     have p1 := cb hbx f3
     have hi0 : (0 : Int) ≤ (i : Int) := by omega
     have hi1 : (i : Int) < (l.length : Int) := by omega
     refine zF (fun w' => w'.cell? ⟨sb, soff + i * 4 + 3, none⟩ = some (.int .i64 (js.length : Int)) ∧ Rw w' w.heap.size #[.int .i64 t.n, .string t.s, .slice a t.kids.length cap] 57) [] (by decide +kernel) ?g29rgS (fun hHeld => ?g29rgR)
     case g29rgS => (try dsimp only); (exact ⟨p1, r5.drew⟩)
     try dsimp only at hHeld
     repeat' first
      | exact zA.nil
      | (refine zD [0, 1, 2, 3, 4, 5, 6, 7, 8, 9, 10, 11, 12, 13, 14, 15, 16, 17, 18] 0 (by decide +kernel) (fun _ _ _ _ _ h => h) (by assumption) ?_; (iterate 19 ((first | (refine YA.skip rfl (by rfl) ?_) | (apply YA.take rfl (by rfl); case hy => intro wS hSw; (obtain ⟨g2, g3⟩ := hSw); (have z0 : wS.cell? ⟨w.heap.size, 0, none⟩ = some (.int .i64 t.n) := g3.cell 0); (have z1 : wS.cell? ⟨w.heap.size, 1, none⟩ = some (.string t.s) := g3.cell 1); (have z2 : wS.cell? ⟨w.heap.size, 2, none⟩ = some (.slice a t.kids.length cap) := g3.cell 2); go_simp; try with_reducible rfl)); try simp only [pD])); refine YA.nil ?_)
      | (refine zE (by decide +kernel) ?_)
     go_wp2_with fail
     go_ret
     exact ⟨zX H13.out.symm, hbx.drew⟩
   ·have H13 : Hid (yL l (KF l) t i = 13) := zH (by rw [HR2.out, if_pos (.inr (.inl hs0))])
    have hnb : (t.n != 0) = false := by simp [hn0]
    have hsb' : (!t.s.toList.isEmpty) = true := by cases h : t.s.toList with | nil => exact absurd h hs0 | cons => rfl
    clear HR2 hn0 hs0
    go_enter Try.func35, Try.ntmps35
    go_wp2_with fail
    have hbx := ba (b0 w) (.cells #[.int .i64 t.n, .string t.s, .slice a t.kids.length cap] 57)
    have r5 := Rw.new w #[.int .i64 t.n, .string t.s, .slice a t.kids.length cap] 57
    generalize w.alloc (.cells #[.int .i64 t.n, .string t.s, .slice a t.kids.length cap] 57) = wx at hbx r5 ⊢
    have p1 := cb hbx f3
    have hi0 : (0 : Int) ≤ (i : Int) := by omega
    have hi1 : (i : Int) < (l.length : Int) := by omega
    refine zF (fun w' => w'.cell? ⟨sb, soff + i * 4 + 3, none⟩ = some (.int .i64 (js.length : Int)) ∧ Rw w' w.heap.size #[.int .i64 t.n, .string t.s, .slice a t.kids.length cap] 57) [] (by decide +kernel) ?g30rgS (fun hHeld => ?g30rgR)
    case g30rgS => (try dsimp only); (exact ⟨p1, r5.drew⟩)
    try dsimp only at hHeld
    repeat' first
     | exact zA.nil
     | (refine zD [0, 1, 2, 3, 4, 5, 6, 7, 8, 9, 10, 11, 12, 13, 14, 15, 16, 17, 18] 0 (by decide +kernel) (fun _ _ _ _ _ h => h) (by assumption) ?_; (iterate 19 ((first | (refine YA.skip rfl (by rfl) ?_) | (apply YA.take rfl (by rfl); case hy => intro wS hSw; (obtain ⟨g2, g3⟩ := hSw); (have z0 : wS.cell? ⟨w.heap.size, 0, none⟩ = some (.int .i64 t.n) := g3.cell 0); (have z1 : wS.cell? ⟨w.heap.size, 1, none⟩ = some (.string t.s) := g3.cell 1); (have z2 : wS.cell? ⟨w.heap.size, 2, none⟩ = some (.slice a t.kids.length cap) := g3.cell 2); go_simp; try with_reducible rfl)); try simp only [pD])); refine YA.nil ?_)
     | (refine zE (by decide +kernel) ?_)
    go_wp2_with fail
    go_ret
    exact ⟨zX H13.out.symm, hbx.drew⟩
  ·have H13 : Hid (yL l (KF l) t i = 13) := zH (by rw [HR2.out, if_pos (.inl hn0)])
   have hnb : (t.n != 0) = true := by simp [hn0]
   have hnc : (t.n == 0) = false := beq_eq_false_iff_ne.2 hn0
   clear HR2 hn0
   go_enter Try.func35, Try.ntmps35
   go_wp2_with fail
   have hbx := ba (b0 w) (.cells #[.int .i64 t.n, .string t.s, .slice a t.kids.length cap] 57)
   have r5 := Rw.new w #[.int .i64 t.n, .string t.s, .slice a t.kids.length cap] 57
   generalize w.alloc (.cells #[.int .i64 t.n, .string t.s, .slice a t.kids.length cap] 57) = wx at hbx r5 ⊢
   have p1 := cb hbx f3
   have hi0 : (0 : Int) ≤ (i : Int) := by omega
   have hi1 : (i : Int) < (l.length : Int) := by omega
   refine zF (fun w' => w'.cell? ⟨sb, soff + i * 4 + 3, none⟩ = some (.int .i64 (js.length : Int)) ∧ Rw w' w.heap.size #[.int .i64 t.n, .string t.s, .slice a t.kids.length cap] 57) [] (by decide +kernel) ?g31rgS (fun hHeld => ?g31rgR)
   case g31rgS => (try dsimp only); (exact ⟨p1, r5.drew⟩)
   try dsimp only at hHeld
   repeat' first
    | exact zA.nil
    | (refine zD [0, 1, 2, 3, 4, 5, 6, 7, 8, 9, 10, 11, 12, 13, 14, 15, 16, 17, 18] 0 (by decide +kernel) (fun _ _ _ _ _ h => h) (by assumption) ?_; (iterate 19 ((first | (refine YA.skip rfl (by rfl) ?_) | (apply YA.take rfl (by rfl); case hy => intro wS hSw; (obtain ⟨g2, g3⟩ := hSw); (have z0 : wS.cell? ⟨w.heap.size, 0, none⟩ = some (.int .i64 t.n) := g3.cell 0); (have z1 : wS.cell? ⟨w.heap.size, 1, none⟩ = some (.string t.s) := g3.cell 1); (have z2 : wS.cell? ⟨w.heap.size, 2, none⟩ = some (.slice a t.kids.length cap) := g3.cell 2); go_simp; try with_reducible rfl)); try simp only [pD])); refine YA.nil ?_)
    | (refine zE (by decide +kernel) ?_)
   go_wp2_with fail
   go_ret
   exact ⟨zX H13.out.symm, hbx.drew⟩
 ·have hkb : (kd == 0) = false := beq_eq_false_iff_ne.2 hkz
  have hkb2 : (kd != 0) = true := by simp [hkz]
  have HR2 : Hid (yL l (KF l) t i = jM kd t) := zH (by rw [HR.out, if_pos hkz])
  have HLF := zH (fun w' => zJT kd t a t.kids.length cap rfl w' (by omega) (by omega) hss)
  clear HR hkz hgi f3
  go_enter Try.func35, Try.ntmps35
  go_wp2_with fail
  have hbx := ba (b0 w) (.cells #[.int .i64 t.n, .string t.s, .slice a t.kids.length cap] 57)
  have r5 := Rw.new w #[.int .i64 t.n, .string t.s, .slice a t.kids.length cap] 57
  generalize w.alloc (.cells #[.int .i64 t.n, .string t.s, .slice a t.kids.length cap] 57) = wx at hbx r5 ⊢
  have p1 := cb hbx f2
  have hi0 : (0 : Int) ≤ (i : Int) := by omega
  have hi1 : (i : Int) < (l.length : Int) := by omega
  refine zF (fun w' => w'.cell? ⟨sb, soff + i * 4 + 2, none⟩ = some (.int .i64 kd) ∧ Rw w' w.heap.size #[.int .i64 t.n, .string t.s, .slice a t.kids.length cap] 57) [7] (by decide +kernel) ?g32rgS (fun hHeld => ?g32rgR)
  case g32rgS => (try dsimp only); (first | exact ⟨p1, r5.drew⟩ | exact ⟨cb hb9 hHeld.1, hHeld.2.below hb9⟩)
  try dsimp only at hHeld
  repeat' first
   | exact zA.nil
   | refine zB (fuel := 1) [6] (by decide +kernel) (by simp) ?_
   | refine zB (fuel := 0) [7] (by decide +kernel) (by simp) ?_
   | (refine zD [0, 1, 2, 3, 4, 5] 2 (by decide +kernel) (fun _ _ _ _ _ h => h) (by assumption) ?_; (iterate 6 ((apply YA.take rfl (by rfl); case hy => intro wS hSw; (obtain ⟨g2, g3⟩ := hSw); (have z0 : wS.cell? ⟨w.heap.size, 0, none⟩ = some (.int .i64 t.n) := g3.cell 0); (have z1 : wS.cell? ⟨w.heap.size, 1, none⟩ = some (.string t.s) := g3.cell 1); (have z2 : wS.cell? ⟨w.heap.size, 2, none⟩ = some (.slice a t.kids.length cap) := g3.cell 2); go_simp; try with_reducible rfl); try simp only [pD])); refine YA.nil ?_)
   | (refine zA.con 6 rfl (fun K hK => ?_) ?_; (go_simp; refine (HLF.out _).mono ?_; rintro e w9 ⟨rfl, hb9⟩; dsimp only); (refine hK.out _ _ ?_ (fun hHeld => ?_); focus ((try dsimp only); (first | exact ⟨p1, r5.drew⟩ | exact ⟨cb hb9 hHeld.1, hHeld.2.below hb9⟩))); try dsimp only at hHeld; clear hK K; try simp only [pD])
   | (refine zA.lst 7 rfl (by decide +kernel) (fun K hK => ?_) ?_; (go_simp); refine hK.out _ _ ?_; clear hK K; try simp only [pD])
   | (refine zE (by decide +kernel) ?_)
  go_wp2_with fail
  go_ret
  exact ⟨zX HR2.out.symm, bt hbx.drew hb9⟩
theorem zHl (l : List Fl) (hw : Wf l) (hG : ∀ (i : Nat) (h : i < l.length), l[i].kind = 0 → l[i].kids = ((KF l i).length : Int)) : ∀ N, zG8 N l
 | 0 => fun _ h => absurd h (Nat.not_lt_zero _)
 | N + 1 => zHV N l hw hG (zHl l hw hG N)
theorem zJW (l : List Fl) (hw : Wf l) (hG : ∀ (i : Nat) (h : i < l.length), l[i].kind = 0 → l[i].kids = ((KF l i).length : Int)) (t : Tr) (sa : Option Addr) (scap : Nat) (a : Option Addr) (cap : Nat) (w : World) (hs : Sl (fun b => b < w.heap.size) w 4 sa l.length scap (fls l)) (hT : xS w t [.int .i64 t.n, .string t.s, .slice a t.kids.length cap]) :
  Calls Try.prog 21 #[.slice sa l.length scap, .agg #[.int .i64 t.n, .string t.s, .slice a t.kids.length cap]] w fun e w' => e = .returned (.int .i64 (yL l (KF l) t 0)) ∧ Below w.heap.size w w' := by
 have hw1 := hw.len; have hw2 := hw.pos
 have HS := zH hs; have HT := zH hT; have HW := zH hw; clear hs hT hw
 go_enter Try.func21, Try.ntmps21
 go_wp2_with fail
 have hbx := ba (b0 w) (.cells #[.int .i64 t.n, .string t.s, .slice a t.kids.length cap] 57)
 have r3 := Rw.new w #[.int .i64 t.n, .string t.s, .slice a t.kids.length cap] 57
 generalize w.alloc (.cells #[.int .i64 t.n, .string t.s, .slice a t.kids.length cap] 57) = wx at hbx r3 ⊢
 have HBX := zH hbx
 refine zF (fun w' => Rw w' w.heap.size #[.int .i64 t.n, .string t.s, .slice a t.kids.length cap] 57) [5] (by decide +kernel) ?g33rgS (fun hHeld => ?g33rgR)
 case g33rgS => (try dsimp only); (first | exact r3.drew | exact hHeld.below hb1 | exact hHeld.below hb3)
 try dsimp only at hHeld
 repeat' first
  | exact zA.nil
  | refine zB (fuel := 2) [2] (by decide +kernel) (by simp) ?_
  | refine zB (fuel := 1) [4] (by decide +kernel) (by simp) ?_
  | refine zB (fuel := 0) [5] (by decide +kernel) (by simp) ?_
  | (refine zD [0, 1, 3] 3 (by decide +kernel) (fun _ _ _ _ _ h => h) (by assumption) ?_; (iterate 3 ((apply YA.take rfl (by rfl); case hy => intro wS hSw; (have z0 : wS.cell? ⟨w.heap.size, 0, none⟩ = some (.int .i64 t.n) := hSw.cell 0); (have z1 : wS.cell? ⟨w.heap.size, 1, none⟩ = some (.string t.s) := hSw.cell 1); (have z2 : wS.cell? ⟨w.heap.size, 2, none⟩ = some (.slice a t.kids.length cap) := hSw.cell 2); go_simp; try with_reducible rfl); try simp only [pD])); refine YA.nil ?_)
  | (refine zA.con 2 rfl (fun K hK => ?_) ?_; (go_simp; refine (zBu sa l.length scap l _ (slb HS.out HBX.out.drew) (by omega) HW.out.kids).mono ?_; rintro e w1 ⟨aP, cP, rfl, hpp, hb1⟩; dsimp only); (refine hK.out _ _ ?_ (fun hHeld => ?_); focus ((try dsimp only); (first | exact r3.drew | exact hHeld.below hb1 | exact hHeld.below hb3))); try dsimp only at hHeld; clear hK K; try simp only [pD])
  | (refine zA.con 4 rfl (fun K hK => ?_) ?_; (go_simp; refine (zHl l HW.out hG (t.size + 1) t (by omega) 0 (by omega) sa aP scap cP a cap _ (slb HS.out (bt HBX.out.drew hb1)) (Sl.mono (ok' := fun b => b < w1.heap.size) hpp.own.sl (fun k hk _ => hk) (by decide)) (xS.below (bt HBX.out.drew hb1) _ _ HT.out)).mono ?_; rintro e w3 ⟨rfl, hb3⟩; dsimp only); (refine hK.out _ _ ?_ (fun hHeld => ?_); focus ((try dsimp only); (first | exact r3.drew | exact hHeld.below hb1 | exact hHeld.below hb3))); try dsimp only at hHeld; clear hK K; try simp only [pD])
  | (refine zA.lst 5 rfl (by decide +kernel) (fun K hK => ?_) ?_; (go_simp); refine hK.out _ _ ?_; clear hK K; try simp only [pD])
  | (refine zE (by decide +kernel) ?_)
 go_wp2_with fail
 go_ret
 exact ⟨rfl, bt (bt HBX.out.drew hb1) hb3⟩
end Go.Proofs.Ytjbkjfefjhbolaa
