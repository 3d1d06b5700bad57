import Derived.Test.YtjbkjfefjhbolaakColR14
set_option linter.all false
open And renaming intro → zLP
open List renaming drop_eq_getElem_cons → zLQ, drop_eq_nil_of_le → zLT
open Nat renaming le_trans → zLR, zero_le → zLV
open Bool renaming and_eq_true → zLS, false_and → zLU
namespace Go.Shr
open Go.RowKit
mutual
def jZ : Tr → Tr → Bool
 | .mk n s ks, .mk n' s' ks' => n == n' && (s.toList == s'.toList && jK ks ks')
def jK : List (List Tr) → List (List Tr) → Bool
 | [], [] => true
 | l :: r, l' :: r' => xA l l' && jK r r'
 | [], _ :: _ => false
 | _ :: _, [] => false
def xA : List Tr → List Tr → Bool
 | [], [] => true
 | t :: r, t' :: r' => jZ t t' && xA r r'
 | [], _ :: _ => false
 | _ :: _, [] => false
end
theorem zK9 {a b : ByteArray} (h : a.toList = b.toList) : a = b := by
 rw [ByteArray.toList_eq, ByteArray.toList_eq] at h
 cases a; cases b
 simp at h
 rw [h]
mutual
theorem zEj : ∀ (t u : Tr), jZ t u = true ↔ t = u
 | .mk n s ks, .mk n' s' ks' => by
  simp only [jZ, zLS, beq_iff_eq, zEm ks ks', Tr.mk.injEq]
  constructor
  ·rintro ⟨h1, h2, h3⟩; exact ⟨h1, zK9 h2, h3⟩
  ·rintro ⟨h1, h2, h3⟩; exact ⟨h1, by rw [h2], h3⟩
theorem zEm : ∀ (t u : List (List Tr)), jK t u = true ↔ t = u
 | [], [] => by simp [jK]
 | l :: r, l' :: r' => by simp only [jK, zLS, zAI l l', zEm r r', List.cons.injEq]
 | [], _ :: _ => by simp [jK]
 | _ :: _, [] => by simp [jK]
theorem zAI : ∀ (t u : List Tr), xA t u = true ↔ t = u
 | [], [] => by simp [xA]
 | l :: r, l' :: r' => by simp only [xA, zLS, zEj l l', zAI r r', List.cons.injEq]
 | [], _ :: _ => by simp [xA]
 | _ :: _, [] => by simp [xA]
end
theorem zEl : ∀ {a b : List (List Tr)}, a.length ≠ b.length → jK a b = false
 | [], [], h => absurd rfl h
 | l :: r, l' :: r', h => by
  simp only [jK]
  rw [zEl (fun e => h (by simp [e]))]; simp
 | [], _ :: _, _ => by simp [jK]
 | _ :: _, [], _ => by simp [jK]
theorem zEk : ∀ {a b : List Tr}, a.length ≠ b.length → xA a b = false
 | [], [], h => absurd rfl h
 | l :: r, l' :: r', h => by
  simp only [xA]
  rw [zEk (fun e => h (by simp [e]))]; simp
 | [], _ :: _, _ => by simp [xA]
 | _ :: _, [], _ => by simp [xA]
theorem zIK (t u : Tr) : jZ t u = (t.n == u.n && (t.s.toList == u.s.toList && jK t.kids u.kids)) := by cases t; cases u; simp only [jZ, Tr.n, Tr.s, Tr.kids]
theorem zGz (a b : List (List Tr)) (j : Nat) (h : j < a.length) (h' : j < b.length) : jK (a.drop j) (b.drop j) = (xA a[j] b[j] && jK (a.drop (j + 1)) (b.drop (j + 1))) := by
 rw [zLQ h, zLQ h']; simp only [jK]
theorem zGy (a b : List Tr) (j : Nat) (h : j < a.length) (h' : j < b.length) : xA (a.drop j) (b.drop j) = (jZ a[j] b[j] && xA (a.drop (j + 1)) (b.drop (j + 1))) := by
 rw [zLQ h, zLQ h']; simp only [xA]
end Go.Shr
namespace Go.Proofs.Ytjbkjfefjhbolaa
open Go.RowKit Go.Shr
def zG7 (f : FuncId) (N : Nat) : Prop := ∀ (t u : Tr), t.size < N → ∀ (a b : Option Addr) (ca cb' : Nat) (w : World), xS w t [.int .i64 t.n, .string t.s, .slice a t.kids.length ca] → xS w u [.int .i64 u.n, .string u.s, .slice b u.kids.length cb'] →
 Calls Try.prog f #[.agg #[.int .i64 t.n, .string t.s, .slice a t.kids.length ca], .agg #[.int .i64 u.n, .string u.s, .slice b u.kids.length cb']] w fun e w' => e = .returned (.bool (jZ t u)) ∧ Below w.heap.size w w'
set_option maxHeartbeats 4000000 in
set_option maxRecDepth 100000 in
theorem zHQ (N : Nat) (IH : zG7 31 N) : zG7 31 (N + 1) := by
 intro t u hN a b ca cb' w hT hU
 obtain ⟨_, _, _, xs, hcs, hm, hs, hsl, hk⟩ := hT.parts
 simp at hcs
 obtain ⟨rfl, rfl, rfl⟩ := hcs
 obtain ⟨_, _, _, ys, hcs, hm2, hs2, hsl2, hk2⟩ := hU.parts
 simp at hcs
 obtain ⟨rfl, rfl, rfl⟩ := hcs
 have hmx := zLR hsl.le hsl.max
 have hmx2 := zLR hsl2.le hsl2.max
 unfold maxLen at hmx hmx2
 have HSL := zH hsl; have HK := zH hk; have HSL2 := zH hsl2; have HK2 := zH hk2; have HIH := zH IH
 have HE := zH (zIK t u)
 clear hsl hk hsl2 hk2 IH hT hU hm hm2
 go_enter Try.func31, Try.ntmps31
 go_wp2_with fail
 ·rename_i h1 h2 h3
  go_ret
  exact ⟨zAc (by rw [HE.out, zEl (by intro h; simp [h] at h3)]; simp), by repeat (first | with_reducible exact Below.refl _ _ | refine ba ?_ _)⟩
 rotate_left
 ·rename_i h1 h2
  go_ret
  exact ⟨zAc (by rw [HE.out]; simp [h2]), by repeat (first | with_reducible exact Below.refl _ _ | refine ba ?_ _)⟩
 ·rename_i h1
  go_ret
  exact ⟨zAc (by rw [HE.out]; simp [h1]), by repeat (first | with_reducible exact Below.refl _ _ | refine ba ?_ _)⟩
 rename t.n = u.n => h1
 rename t.s.toList = u.s.toList => h2
 rename ((t.kids.length : Int) != (u.kids.length : Int)) = false => h3
 have hle : t.kids.length = u.kids.length := by simp at h3; omega
 have HE2 : Hid (jZ t u = jK (t.kids.drop 0) (u.kids.drop 0)) := zH (by rw [HE.out]; simp [h1, h2])
 have HLE := zH hle
 clear h1 h2 h3 HE hle
 go_loopw [5] (fun iv wr => ∃ j : Nat, iv = .int .i64 (j : Int) ∧ j ≤ t.kids.length ∧ Hid (jZ t u = jK (t.kids.drop j) (u.kids.drop j)) ∧ Hid (Below w.heap.size w wr) ∧ Hid (wr.cell? ⟨w.heap.size, 2, none⟩ = some (.slice a t.kids.length ca)) ∧ Hid (wr.cell? ⟨w.heap.size + 1, 2, none⟩ = some (.slice b u.kids.length cb'))) (fun iv _ => t.kids.length - (intOf iv).toNat)
 case atStart => exact ⟨0, rfl, zLV _, HE2, zH (ba (ba (b0 w) _) _), zH (((Rw.new w _ _).alloc _).cell 2), zH ((Rw.new' (b := w.heap.size + 1) (by simp)).cell 2)⟩
 case round =>
  clear HE2
  obtain ⟨j, rfl, hj, HE, HB, HZ1, HZ2⟩ := hrel
  have z1 := HZ1.out
  have z2 := HZ2.out
  by_cases hlt : j < t.kids.length
  ·have hlt2 : j < u.kids.length := by have := HLE.out; omega
   obtain ⟨xb, xoff, rfl, hxb, hxc⟩ := HSL.out.pos (by omega)
   obtain ⟨la, lcap, ls, g0, hys, hrow⟩ := HK.out.get j hlt
   obtain ⟨xb2, xoff2, rfl, hxb2, hxc2⟩ := HSL2.out.pos (by omega)
   obtain ⟨la2, lcap2, ls2, g02, hys2, hrow2⟩ := HK2.out.get j hlt2
   have g0w := hxc _ _ g0
   have g0w2 := hxc2 _ _ g02
   replace g0 := cb HB.out g0w
   replace g02 := cb HB.out g0w2
   have HD := zH (zGz t.kids u.kids j hlt hlt2)
   have hmem : ∀ y ∈ t.kids[j], y.size < N := fun y hy => by have := zDO (List.getElem_mem hlt) hy; omega
   have hmy := zLR hys.le hys.max
   have hmy2 := zLR hys2.le hys2.max
   unfold maxLen at hmy hmy2
   generalize t.kids[j] = l at *
   generalize u.kids[j] = l2 at *
   have HG0 := zH g0w; have HG02 := zH g0w2
   have HYS := zH hys; have HROW := zH hrow; have HYS2 := zH hys2; have HROW2 := zH hrow2; have HMEM := zH hmem
   clear hxc hys hrow g0w hxc2 hys2 hrow2 g0w2 hmem
   have hjt : (j : Int) < (t.kids.length : Int) := by omega
   have hju : (j : Int) < (u.kids.length : Int) := by omega
   have hj0 : (0 : Int) ≤ (j : Int) := by omega
   have HC := zH (zLP z1 (zLP z2 (zLP g0 g02)))
   by_cases hll : l.length = l2.length
   ·have hlb : ((l.length : Int) != (l2.length : Int)) = false := by simp [hll]
    have HLL := zH hll
    have HE2 : Hid (jZ t u = (xA (l.drop 0) (l2.drop 0) && jK (t.kids.drop (j + 1)) (u.kids.drop (j + 1)))) := zH (by rw [HE.out, HD.out]; rfl)
    clear hll
    go_wp2_with fail
    refine zF (fun w' => w'.cell? ⟨w.heap.size, 2, none⟩ = some (.slice (some ⟨xb, xoff, none⟩) t.kids.length ca) ∧ w'.cell? ⟨w.heap.size + 1, 2, none⟩ = some (.slice (some ⟨xb2, xoff2, none⟩) u.kids.length cb') ∧ w'.cell? ⟨xb, xoff + j, none⟩ = some (.slice la l.length lcap) ∧ w'.cell? ⟨xb2, xoff2 + j, none⟩ = some (.slice la2 l2.length lcap2)) [12] (by kernel_rfl) ?g62rgS (fun hHeld => ?g62rgR)
    case g62rgS => (try dsimp only); (exact HC.out)
    try dsimp only at hHeld
    refine zD [0, 1, 2, 3, 4, 5, 6, 7, 8, 9, 10, 11] 1 (by kernel_rfl) (fun _ _ _ _ _ h => h) (by assumption) ?_
    iterate 12 ((apply YA.take rfl (by rfl); case hy => rintro w ⟨s1, s2, s3, s4⟩; go_simp; try with_reducible rfl); try simp only [pD])
    refine YA.nil ?_
    refine zB [12] (by kernel_rfl) (by simp) ?_
    refine zA.lst 12 rfl (by kernel_rfl) (fun K hK => ?g62ro1) ?g62rm1
    case g62rm1 => exact zA.nil
    go_simp
    refine hK.out _ _ ?_
    clear hK K
    try simp only [pD]
    refine zE (by kernel_rfl) ?_
    clear hHeld
    go_wp2_with fail
    have HB' := zH (HB.out.drew)
    obtain ⟨wo, rfl⟩ : ∃ wo : World, wo = wr := ⟨_, rfl⟩
    clear hlb
    go_loopw [6] (fun iv wr => ∃ k : Nat, iv = .int .i64 (k : Int) ∧ k ≤ l.length ∧ Hid (jZ t u = (xA (l.drop k) (l2.drop k) && jK (t.kids.drop (j + 1)) (u.kids.drop (j + 1)))) ∧ Hid (Below w.heap.size w wr) ∧ Hid (wr.cell? ⟨w.heap.size, 2, none⟩ = some (.slice (some ⟨xb, xoff, none⟩) t.kids.length ca)) ∧ Hid (wr.cell? ⟨w.heap.size + 1, 2, none⟩ = some (.slice (some ⟨xb2, xoff2, none⟩) u.kids.length cb'))) (fun iv _ => l.length - (intOf iv).toNat)
    case atStart => exact ⟨0, rfl, zLV _, HE2, HB', HZ1, HZ2⟩
    case round =>
     clear z1 z2 g0 g02 HE2
     obtain ⟨k, rfl, hk, HE3, HB3, HZ3, HZ4⟩ := hrel
     have z1 := HZ3.out
     have z2 := HZ4.out
     have g0 := cb HB3.out HG0.out
     have g02 := cb HB3.out HG02.out
     by_cases hkl : k < l.length
     ·have hkl2 : k < l2.length := by have := HLL.out; omega
      obtain ⟨yb, yoff, rfl, hyb, hyc⟩ := HYS.out.pos (by omega)
      obtain ⟨ka, _, kcap, kxs, v0, v1, v2, rfl, hks, hsl, hkid⟩ := HROW.out.get k hkl
      have hTk : xS w l[k] [.int .i64 l[k].n, .string l[k].s, .slice ka l[k].kids.length kcap] := xS.mk' hks hsl hkid
      obtain ⟨yb2, yoff2, rfl, hyb2, hyc2⟩ := HYS2.out.pos (by omega)
      obtain ⟨ka2, _, kcap2, kxs2, x0, x1, x2, rfl, hks2, hsl2, hkid2⟩ := HROW2.out.get k hkl2
      have hTk2 : xS w l2[k] [.int .i64 l2[k].n, .string l2[k].s, .slice ka2 l2[k].kids.length kcap2] := xS.mk' hks2 hsl2 hkid2
      replace v0 := cb HB3.out (hyc _ _ v0); replace v1 := cb HB3.out (hyc _ _ v1); replace v2 := cb HB3.out (hyc _ _ v2)
      replace x0 := cb HB3.out (hyc2 _ _ x0); replace x1 := cb HB3.out (hyc2 _ _ x1); replace x2 := cb HB3.out (hyc2 _ _ x2)
      rw [← Nat.add_assoc] at v1 v2 x1 x2
      have HDL := zH (zGy l l2 k hkl hkl2)
      have hsz3 : l[k].size < N := HMEM.out _ (List.getElem_mem hkl)
      have HT := zH hTk; have HT2 := zH hTk2
      generalize l[k] = p at *
      generalize l2[k] = q at *
      clear hyc hks hsl hkid hTk hyc2 hks2 hsl2 hkid2 hTk2
      have hkt : (k : Int) < (l.length : Int) := by omega
      have hku : (k : Int) < (l2.length : Int) := by omega
      have hk0 : (0 : Int) ≤ (k : Int) := by omega
      have HC2 := zH (zLP z1 (zLP z2 (zLP g0 (zLP g02 (zLP v0 (zLP v1 (zLP v2 (zLP x0 (zLP x1 x2)))))))))
      go_wp2_with fail
      refine zF (fun w' => w'.cell? ⟨w.heap.size, 2, none⟩ = some (.slice (some ⟨xb, xoff, none⟩) t.kids.length ca) ∧ w'.cell? ⟨w.heap.size + 1, 2, none⟩ = some (.slice (some ⟨xb2, xoff2, none⟩) u.kids.length cb') ∧ w'.cell? ⟨xb, xoff + j, none⟩ = some (.slice (some ⟨yb, yoff, none⟩) l.length lcap) ∧ w'.cell? ⟨xb2, xoff2 + j, none⟩ = some (.slice (some ⟨yb2, yoff2, none⟩) l2.length lcap2) ∧ w'.cell? ⟨yb, yoff + k * 3, none⟩ = some (.int .i64 p.n) ∧ w'.cell? ⟨yb, yoff + k * 3 + 1, none⟩ = some (.string p.s) ∧ w'.cell? ⟨yb, yoff + k * 3 + 2, none⟩ = some (.slice ka p.kids.length kcap) ∧ w'.cell? ⟨yb2, yoff2 + k * 3, none⟩ = some (.int .i64 q.n) ∧ w'.cell? ⟨yb2, yoff2 + k * 3 + 1, none⟩ = some (.string q.s) ∧ w'.cell? ⟨yb2, yoff2 + k * 3 + 2, none⟩ = some (.slice ka2 q.kids.length kcap2)) [] (by kernel_rfl) ?g63rgS (fun hHeld => ?g63rgR)
      case g63rgS => (try dsimp only); (first | exact HC2.out | (have hh := HC2.out; exact ⟨cb HB4.out hh.1, cb HB4.out hh.2.1, cb HB4.out hh.2.2.1, cb HB4.out hh.2.2.2.1, cb HB4.out hh.2.2.2.2.1, cb HB4.out hh.2.2.2.2.2.1, cb HB4.out hh.2.2.2.2.2.2.1, cb HB4.out hh.2.2.2.2.2.2.2.1, cb HB4.out hh.2.2.2.2.2.2.2.2.1, cb HB4.out hh.2.2.2.2.2.2.2.2.2⟩))
      try dsimp only at hHeld
      refine zD [0, 1, 2, 3, 4, 5, 6, 7, 8, 9, 10, 11, 12, 13, 14, 15] 2 (by kernel_rfl) (fun _ _ _ _ _ h => h) (by assumption) ?_
      iterate 16 ((apply YA.take rfl (by rfl); case hy => rintro w ⟨s1, s2, s3, s4, s5, s6, s7, s8, s9, s10⟩; go_simp; try with_reducible rfl); try simp only [pD])
      refine YA.nil ?_
      refine zB [16] (by kernel_rfl) (by simp) ?_
      refine zA.con 16 rfl (fun K hK => ?g63ro1) ?g63rm1
      case g63rm1 => exact zA.nil
      go_simp; refine (HIH.out p q hsz3 ka ka2 kcap kcap2 _ (xS.below HB3.out.drew _ _ HT.out) (xS.below HB3.out.drew _ _ HT2.out)).mono ?_; rintro e w4 ⟨rfl, hb4⟩; (have HB4 := zH (show Below wr.heap.size wr w4 from bt (b0 wr).drew hb4)); clear hb4; dsimp only
      refine hK.out _ _ ?g63rs1 (fun hHeld => ?g63rt1)
      case g63rs1 => (try dsimp only); (first | exact HC2.out | (have hh := HC2.out; exact ⟨cb HB4.out hh.1, cb HB4.out hh.2.1, cb HB4.out hh.2.2.1, cb HB4.out hh.2.2.2.1, cb HB4.out hh.2.2.2.2.1, cb HB4.out hh.2.2.2.2.2.1, cb HB4.out hh.2.2.2.2.2.2.1, cb HB4.out hh.2.2.2.2.2.2.2.1, cb HB4.out hh.2.2.2.2.2.2.2.2.1, cb HB4.out hh.2.2.2.2.2.2.2.2.2⟩))
      try dsimp only at hHeld
      clear hK K
      try simp only [pD]
      refine zD [17] 0 (by kernel_rfl) (fun _ _ _ _ _ h => h) (by assumption) ?_
      iterate 1 ((apply YA.take rfl (by rfl); case hy => rintro w ⟨s1, s2, s3, s4, s5, s6, s7, s8, s9, s10⟩; go_simp; try with_reducible rfl); try simp only [pD])
      refine YA.nil ?_
      refine zE (by kernel_rfl) ?_
      have HB5 := zH (bt HB3.out HB4.out)
      have HZ5 := zH (cb HB4.out HC2.out.1); have HZ6 := zH (cb HB4.out HC2.out.2.1)
      clear hHeld z1 z2 g0 g02 v0 v1 v2 x0 x1 x2
      cases hst : jZ p q with
      | true =>
       have HE5 : Hid (jZ t u = (xA (l.drop (k + 1)) (l2.drop (k + 1)) && jK (t.kids.drop (j + 1)) (u.kids.drop (j + 1)))) := zH (by rw [HE3.out, HDL.out, hst, Bool.true_and])
       clear hst
       go_wp2_with fail
       go_roundw
       case rel =>
        exact ⟨k + 1, by go_num, by omega, HE5, HB5, HZ5, HZ6⟩
       case measure => simp [intOf]; omega
      | false =>
       have HE5 : Hid (jZ t u = false) := zH (by rw [HE3.out, HDL.out, hst, zLU, zLU])
       clear hst
       go_wp2_with fail
       go_ret
       exact ⟨zAc HE5.out.symm, HB5.out⟩
     ·obtain rfl : k = l.length := by omega
      have HE5 : Hid (jZ t u = jK (t.kids.drop (j + 1)) (u.kids.drop (j + 1))) := zH (by rw [HE3.out, List.drop_length, zLT (by rw [HLL.out]; exact Nat.le_refl _)]; simp [xA])
      clear hk
      go_wp2_with fail
      go_roundw
      case rel => exact ⟨j + 1, by go_num, by omega, HE5, HB3, HZ3, HZ4⟩
      case measure => simp [intOf]; omega
   ·have hlb : ((l.length : Int) != (l2.length : Int)) = true := by simp; omega
    have hlb2 : ((l.length : Int) == (l2.length : Int)) = false := beq_eq_false_iff_ne.2 (by omega)
    have HE2 : Hid (jZ t u = false) := zH (by rw [HE.out, HD.out, zEk hll, zLU])
    clear hll
    go_wp2_with fail
    refine zF (fun w' => w'.cell? ⟨w.heap.size, 2, none⟩ = some (.slice (some ⟨xb, xoff, none⟩) t.kids.length ca) ∧ w'.cell? ⟨w.heap.size + 1, 2, none⟩ = some (.slice (some ⟨xb2, xoff2, none⟩) u.kids.length cb') ∧ w'.cell? ⟨xb, xoff + j, none⟩ = some (.slice la l.length lcap) ∧ w'.cell? ⟨xb2, xoff2 + j, none⟩ = some (.slice la2 l2.length lcap2)) [12] (by kernel_rfl) ?g64rgS (fun hHeld => ?g64rgR)
    case g64rgS => (try dsimp only); (exact HC.out)
    try dsimp only at hHeld
    refine zD [0, 1, 2, 3, 4, 5, 6, 7, 8, 9, 10, 11] 1 (by kernel_rfl) (fun _ _ _ _ _ h => h) (by assumption) ?_
    iterate 12 ((apply YA.take rfl (by rfl); case hy => rintro w ⟨s1, s2, s3, s4⟩; go_simp; try with_reducible rfl); try simp only [pD])
    refine YA.nil ?_
    refine zB [12] (by kernel_rfl) (by simp) ?_
    refine zA.lst 12 rfl (by kernel_rfl) (fun K hK => ?g64ro1) ?g64rm1
    case g64rm1 => exact zA.nil
    go_simp
    refine hK.out _ _ ?_
    clear hK K
    try simp only [pD]
    refine zE (by kernel_rfl) ?_
    clear hHeld
    go_wp2_with fail
    go_ret
    exact ⟨zAc HE2.out.symm, HB.out.drew⟩
  ·obtain rfl : j = t.kids.length := by omega
   have HE2 : Hid (jZ t u = true) := zH (by rw [HE.out, List.drop_length, zLT (by rw [HLE.out]; exact Nat.le_refl _)]; simp [jK])
   clear hj
   go_wp2_with fail
   go_ret
   exact ⟨zAc HE2.out.symm, HB.out⟩
theorem zFT : ∀ N, zG7 31 N
 | 0 => fun _ _ h => absurd h (Nat.not_lt_zero _)
 | N + 1 => zHQ N (zFT N)
open Go.RowKit Go.Shr
theorem _root_.Go.Shr.zZ.get' {ok : Nat → Prop} {w : World} : ∀ {l : List Tr} {ys : List Value} (_ : zZ ok w l ys) (k : Nat) (hk : k < l.length),
  ∃ c0 c1 c2, ys[k * 3]? = some c0 ∧ ys[k * 3 + 1]? = some c1 ∧ ys[k * 3 + 2]? = some c2 ∧ TrG ok w l[k] [c0, c1, c2]
 | t :: r, ys, h, 0, _ => by
  simp only [zZ] at h
  obtain ⟨c0, c1, c2, yr, rfl, h2, _⟩ := h
  exact ⟨c0, c1, c2, rfl, rfl, rfl, h2⟩
 | t :: r, ys, h, k + 1, hk => by
  simp only [zZ] at h
  obtain ⟨c0, c1, c2, yr, rfl, _, h3⟩ := h
  rw [show (k + 1) * 3 = k * 3 + 1 + 1 + 1 by omega]
  simpa using h3.get' k (by simpa using hk)
theorem _root_.Go.Shr.TrG.parts' {ok : Nat → Prop} {w : World} {t : Tr} {cs : List Value} (h : TrG ok w t cs) : ∃ a m cap xs, cs = [.int .i64 t.n, .string t.s, .slice a m cap] ∧ m = t.kids.length ∧ t.s.size ≤ maxLen ∧ Sl ok w 1 a m cap xs ∧ yO ok w t.kids xs := by
 obtain ⟨n, s, ks⟩ := t
 simp only [TrG] at h
 obtain ⟨a, m, cap, xs, h1, h2, h3, h4⟩ := h
 refine ⟨a, m, cap, xs, h1, ?_, h2, h3, h4⟩
 have := h3.len; have := h4.len
 simp only [Tr.kids]; omega
theorem zDd : ∀ (x y : List Tr) (j : Nat) (hx : j < x.length) (hy : j < y.length), xA (x.take (j + 1)) (y.take (j + 1)) = (xA (x.take j) (y.take j) && jZ x[j] y[j])
 | a :: x, b :: y, 0, _, _ => by simp [xA]
 | a :: x, b :: y, j + 1, hx, hy => by
  have := zDd x y j (by simpa using hx) (by simpa using hy)
  simp only [List.take_succ_cons, xA, this, List.getElem_cons_succ, Bool.and_assoc]
theorem zGx (x : List Tr) : xA x x = true := (zAI x x).2 rfl
set_option maxHeartbeats 1000000 in
set_option maxRecDepth 100000 in
theorem zJP (x y : List Tr) (xa : Option Addr) (xcap : Nat) (xs : List Value) (ya : Option Addr) (ycap : Nat) (ys : List Value) (w : World) (hx : Sl (fun b => b < w.heap.size) w 3 xa x.length xcap xs) (hxr : yN w x xs) (hy : Sl (fun b => b < w.heap.size) w 3 ya y.length ycap ys) (hyr : yN w y ys) :
  Calls Try.prog 15 #[.slice xa x.length xcap, .slice ya y.length ycap] w fun e w' => e = .returned (.bool (xA x y)) ∧ Below w.heap.size w w' := by
 have hmx := zLR hx.le hx.max
 have hmy := zLR hy.le hy.max
 unfold maxLen at hmx hmy
 have HX := zH hx; have HY := zH hy; have HXR := zH (yN.g _ _ hxr); have HYR := zH (yN.g _ _ hyr)
 clear hx hy hxr hyr
 by_cases hl : x.length = y.length
 ·have hlb : ((x.length : Int) != (y.length : Int)) = false := by simp [hl]
  have HL := zH hl
  clear hl
  go_enter Try.func15, Try.ntmps15
  go_wp2_with fail
  go_loopw [5] (fun iv wr => ∃ j : Nat, iv = .int .i64 (j : Int) ∧ j ≤ x.length ∧ Hid (xA (x.take j) (y.take j) = true) ∧ Hid (Below w.heap.size w wr)) (fun iv _ => x.length - (intOf iv).toNat)
  case atStart => exact ⟨0, rfl, zLV _, zH (by simp [xA]), zH (b0 w)⟩
  case round =>
   clear hlb
   obtain ⟨j, rfl, hj, HE, HB⟩ := hrel
   by_cases hlt : j < x.length
   ·have hlty : j < y.length := by have := HL.out; omega
    obtain ⟨xb, xoff, hxa, hxb, hxc⟩ := HX.out.pos (by omega)
    obtain ⟨yb, yoff, hya, hyb, hyc⟩ := HY.out.pos (by omega)
    obtain ⟨e0, e1, e2, u0, u1, u2, hte⟩ := HXR.out.get' j hlt
    obtain ⟨ta, tm, tcap, _, hcs2, hxm, _, _, _⟩ := hte.parts'
    simp at hcs2
    obtain ⟨rfl, rfl, rfl⟩ := hcs2
    subst hxm
    obtain ⟨e0, e1, e2, v0, v1, v2, htf⟩ := HYR.out.get' j hlty
    obtain ⟨ua, um, ucap, _, hcs2, hym, _, _, _⟩ := htf.parts'
    simp at hcs2
    obtain ⟨rfl, rfl, rfl⟩ := hcs2
    subst hym
    have x0 := cb HB.out (hxc _ _ u0); have x1 := cb HB.out (hxc _ _ u1); have x2 := cb HB.out (hxc _ _ u2)
    have y0 := cb HB.out (hyc _ _ v0); have y1 := cb HB.out (hyc _ _ v1); have y2 := cb HB.out (hyc _ _ v2)
    rw [← Nat.add_assoc] at x1 x2 y1 y2
    have HT := zH hte.at; have HU := zH htf.at
    have HTK := zH (zDd x y j hlt hlty)
    have HDROP : Hid (jZ x[j] y[j] = false → xA x y = false) := zH (fun h => by
     cases hs : xA x y with
     | false => rfl
     | true =>
      have := (zAI x y).1 hs
      subst this
      rw [(zEj _ _).2 rfl] at h
      cases h)
    generalize x[j] = t at *
    generalize y[j] = u at *
    clear hxc hyc u0 u1 u2 v0 v1 v2 hte htf
    have HXA := zH hxa; have HYA := zH hya
    subst hxa
    subst hya
    have HCC := zH (zLP (zLP x0 (zLP x1 x2)) (zLP y0 (zLP y1 y2)))
    have hj0 : (0 : Int) ≤ (j : Int) := by omega
    have hjx : (j : Int) < (x.length : Int) := by omega
    have hjy : (j : Int) < (y.length : Int) := by omega
    clear x0 x1 x2 y0 y1 y2
    go_wp2_with fail
    refine zF (fun w' => (w'.cell? ⟨xb, xoff + j * 3, none⟩ = some (.int .i64 t.n) ∧ w'.cell? ⟨xb, xoff + j * 3 + 1, none⟩ = some (.string t.s) ∧ w'.cell? ⟨xb, xoff + j * 3 + 2, none⟩ = some (.slice ta t.kids.length tcap)) ∧ (w'.cell? ⟨yb, yoff + j * 3, none⟩ = some (.int .i64 u.n) ∧ w'.cell? ⟨yb, yoff + j * 3 + 1, none⟩ = some (.string u.s) ∧ w'.cell? ⟨yb, yoff + j * 3 + 2, none⟩ = some (.slice ua u.kids.length ucap))) [] (by kernel_rfl) ?g65rgS (fun hHeld => ?g65rgR)
    case g65rgS => (try dsimp only); (first | exact HCC.out | exact ⟨⟨cb hb8 HCC.out.1.1, cb hb8 HCC.out.1.2.1, cb hb8 HCC.out.1.2.2⟩, cb hb8 HCC.out.2.1, cb hb8 HCC.out.2.2.1, cb hb8 HCC.out.2.2.2⟩)
    try dsimp only at hHeld
    refine zD [0, 1, 2, 3, 4, 5, 6, 7] 2 (by kernel_rfl) (fun _ _ _ _ _ h => h) (by assumption) ?_
    iterate 8 ((apply YA.take rfl (by rfl); case hy => rintro w ⟨⟨s1, s2, s3⟩, s4, s5, s6⟩; go_simp; try with_reducible rfl); try simp only [pD])
    refine YA.nil ?_
    refine zB [8] (by kernel_rfl) (by simp) ?_
    refine zA.con 8 rfl (fun K hK => ?g65ro1) ?g65rm1
    case g65rm1 => exact zA.nil
    go_simp; refine (zFT (t.size + 1) t u (by omega) ta ua tcap ucap wr.drew (xS.below HB.out.drew _ _ HT.out) (xS.below HB.out.drew _ _ HU.out)).mono ?_; rintro e w8 ⟨rfl, hb8⟩; dsimp only
    refine hK.out _ _ ?g65rs1 (fun hHeld => ?g65rt1)
    case g65rs1 => (try dsimp only); (first | exact HCC.out | exact ⟨⟨cb hb8 HCC.out.1.1, cb hb8 HCC.out.1.2.1, cb hb8 HCC.out.1.2.2⟩, cb hb8 HCC.out.2.1, cb hb8 HCC.out.2.2.1, cb hb8 HCC.out.2.2.2⟩)
    try dsimp only at hHeld
    clear hK K
    try simp only [pD]
    refine zD [9] 0 (by kernel_rfl) (fun _ _ _ _ _ h => h) (by assumption) ?_
    iterate 1 ((apply YA.take rfl (by rfl); case hy => rintro w ⟨⟨s1, s2, s3⟩, s4, s5, s6⟩; go_simp; try with_reducible rfl); try simp only [pD])
    refine YA.nil ?_
    refine zE (by kernel_rfl) ?_
    clear hHeld
    have hb8' : Below wr.heap.size wr w8 := bt (b0 wr).drew hb8
    have HB8 := zH (bt HB.out hb8')
    clear hb8 hb8' HCC
    cases hst : jZ t u with
    | true =>
     have HE2 : Hid (xA (x.take (j + 1)) (y.take (j + 1)) = true) := zH (by rw [HTK.out, HE.out, hst]; rfl)
     clear hst
     go_wp2_with fail
     go_roundw
     case rel => exact ⟨j + 1, by go_num, by omega, HE2, HB8⟩
     case measure => simp [intOf]; omega
    | false =>
     have HF := zH (HDROP.out hst)
     clear hst
     go_wp2_with fail
     go_ret
     exact ⟨by rw [HF.out]; rfl, HB8.out⟩
   ·obtain rfl : j = x.length := by omega
    have HF : Hid (xA x y = true) := zH (by
     have h := HE.out
     rw [List.take_length, List.take_of_length_le (by have := HL.out; omega)] at h
     exact h)
    go_wp2_with fail
    go_ret
    exact ⟨by rw [HF.out]; rfl, HB.out⟩
 ·have hlb : ((x.length : Int) != (y.length : Int)) = true := by simp; omega
  have HF : Hid (xA x y = false) := zH (by
   cases hs : xA x y with
   | false => rfl
   | true => exact absurd (congrArg List.length ((zAI x y).1 hs)) hl)
  clear hl
  go_enter Try.func15, Try.ntmps15
  go_wp2_with fail
  go_ret
  exact ⟨by rw [HF.out]; rfl, b0 w⟩
end Go.Proofs.Ytjbkjfefjhbolaa
