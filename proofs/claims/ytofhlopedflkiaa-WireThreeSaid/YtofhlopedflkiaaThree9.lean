/-
  The walk of WireThree.
-/
import Derived.Test.YtofhlopedflkiaaBad9
import Derived.Test.YtofhlopedflkiaaWRows9
set_option linter.unusedSimpArgs false
namespace Go.Shr
open Go.RowKit
theorem TrAt.grp' {w : World} {n : Int} {s : ByteArray} {b : Nat} {cur : Array Value} {t : TypeId} {ks : List (List Tr)} (m : Nat) (hs : s.size ≤ maxLen) (hr : Rw w b cur t) (hm : cur.size = m * 1) (hm2 : m ≤ maxLen) (hk : KidAt w ks cur.toList) : TrAt w (.mk n s ks) [.int .i64 n, .string s, .slice (some ⟨b, 0, none⟩) m m] := by
  simp only [TrAt]
  exact ⟨_, _, _, _, rfl, hs, ⟨by simpa using hm, Nat.le_refl _, hm2, .inr ⟨b, 0, rfl, hr.lt, fun j u hj => by rw [Nat.zero_add, hr.cell]; simpa using hj⟩⟩, hk⟩
theorem TrAt.leaf'' {w : World} {n : Int} {s : ByteArray} (hs : s.size ≤ maxLen) : TrAt w (.mk n s []) [.int .i64 n, .string s, .slice none 0 0] := by
  simp only [TrAt, KidAt]
  exact ⟨none, 0, 0, [], rfl, hs, Sl.nil _ _ _ _, rfl⟩
theorem KidAt.row' {w : World} {b : Nat} {cur : Array Value} {t : TypeId} {l : List Tr} {r : List (List Tr)} {xr : List Value} (m : Nat) (hm : m = l.length) (hr : Rw w b cur t) (hc : cur.size = m * 3) (hm2 : m ≤ maxLen) (hl : RowAt w l cur.toList) (hk : KidAt w r xr) : KidAt w (l :: r) (.slice (some ⟨b, 0, none⟩) m m :: xr) := by
  simp only [KidAt]
  exact ⟨_, _, _, _, _, rfl, hm, ⟨by simpa using hc, Nat.le_refl _, hm2, .inr ⟨b, 0, rfl, hr.lt, fun j u hj => by rw [Nat.zero_add, hr.cell]; simpa using hj⟩⟩, hl, hk⟩
theorem KidAt.no' {w : World} {r : List (List Tr)} {xr : List Value} (hk : KidAt w r xr) : KidAt w ([] :: r) (.slice none 0 0 :: xr) := by
  simp only [KidAt, RowAt]
  exact ⟨none, 0, 0, [], xr, rfl, rfl, Sl.nil _ _ _ _, rfl, hk⟩
theorem KidAt.nil' {w : World} : KidAt w [] [] := by simp only [KidAt]
theorem RowAt.nil' {w : World} : RowAt w [] [] := by simp only [RowAt]
theorem RowAt.one' {w : World} {t : Tr} {c0 c1 c2 : Value} {r : List Tr} {yr : List Value} (h : TrAt w t [c0, c1, c2]) (hr : RowAt w r yr) : RowAt w (t :: r) (c0 :: c1 :: c2 :: yr) := by
  simp only [RowAt]
  exact ⟨_, _, _, _, rfl, h, hr⟩
end Go.Shr
namespace Go.Proofs.Ytofhlopedflkiaa
open Go.RowKit Go.Shr
def noS : ByteArray := ⟨#[]⟩
def sh3 : Sh := .mk ⟨#[109]⟩ 0 0 [.mk ⟨#[103]⟩ 1 0 [.mk ⟨#[116]⟩ 1 4 []]]
def fl3 : List Fl := [⟨⟨#[109]⟩, 0, 0, 1⟩, ⟨⟨#[103]⟩, 1, 0, 1⟩, ⟨⟨#[116]⟩, 1, 4, 0⟩]
theorem sch3 : Sch fl3 sh3 :=
  ⟨by simp [fl3, sh3, flat, flatL], by simp [sh3, GoodS, GoodL], rfl, by simp [sh3, Sh.size, shSizes]⟩
def three : List Tr := [.mk 0 ⟨#[]⟩ [[]], .mk 0 ⟨#[]⟩ [[.mk 0 ⟨#[]⟩ [[]]]], .mk 0 ⟨#[]⟩ [[.mk 0 ⟨#[]⟩ [[.mk 0 ⟨#[]⟩ []]]]]]
theorem three_ok : ∀ t ∈ three, okT sh3 t := by
  intro t ht
  simp only [three, List.mem_cons, List.not_mem_nil, or_false] at ht
  rcases ht with rfl | rfl | rfl <;> simp [sh3, okT, okK, okRep, Sh.rep, Tr.n, Tr.s, Tr.kids] <;> decide
theorem three_same : ∀ (i j : Nat) (hi : i < three.length) (hj : j < three.length), sameT three[i] three[j] = decide (j = i)
  | 0, 0, _, _ => (sameT_iff _ _).2 rfl
  | 1, 1, _, _ => (sameT_iff _ _).2 rfl
  | 2, 2, _, _ => (sameT_iff _ _).2 rfl
  | 0, 1, _, _ => by simp [three, sameT, sameK, sameL]
  | 0, 2, _, _ => by simp [three, sameT, sameK, sameL]
  | 1, 0, _, _ => by simp [three, sameT, sameK, sameL]
  | 1, 2, _, _ => by simp [three, sameT, sameK, sameL]
  | 2, 0, _, _ => by simp [three, sameT, sameK, sameL]
  | 2, 1, _, _ => by simp [three, sameT, sameK, sameL]
  | i + 3, _, h, _ => by simp [three] at h; omega
  | 0, j + 3, _, h => by simp [three] at h; omega
  | 1, j + 3, _, h => by simp [three] at h; omega
  | 2, j + 3, _, h => by simp [three] at h; omega
set_option maxHeartbeats 2000000 in
set_option maxRecDepth 100000 in
theorem law_three (n : Int) (w : World) (_ : (Lit.int .i64 n).wf = true) :
    Calls Try.prog 7 #[.int .i64 n] w fun e w' => e = .returned (.bool true) ∧ Below w.heap.size w w' := by
  obtain ⟨i0, hi0, hz0, hz1, hz2⟩ := info_parts info_u8
  obtain ⟨it, hit, hz0t, hz1t, hz2t⟩ := info_parts info_tr
  go_enter Try.func7, Try.ntmps7
  go_wp2_with fail
  refine (known9 _).mono ?_
  rintro e w1 ⟨rfl, hb1⟩
  have HB1 := Lib.hid hb1; clear hb1
  go_upto_region 5 with fail
  obtain ⟨wA, hwA⟩ : ∃ wA, wA = ((((((((((w1.alloc (.cells #[.string ⟨#[109]⟩, .int .i64 0, .int .i64 0, .int .i64 1, .string ⟨#[103]⟩, .int .i64 1, .int .i64 0, .int .i64 1, .string ⟨#[116]⟩, .int .i64 1, .int .i64 4, .int .i64 0] 49)).alloc (.cells #[.slice none 0 0] 28)).alloc (.cells #[.slice none 0 0] 28)).alloc (.cells #[.int .i64 0, .string ⟨#[]⟩, .slice (some ⟨w1.heap.size + 1 + 1, 0, none⟩) 1 1] 35)).alloc (.cells #[.slice (some ⟨w1.heap.size + 1 + 1 + 1, 0, none⟩) 1 1] 28)).alloc (.cells #[.int .i64 0, .string ⟨#[]⟩, .slice none 0 0] 35)).alloc (.cells #[.slice (some ⟨w1.heap.size + 1 + 1 + 1 + 1 + 1, 0, none⟩) 1 1] 28)).alloc (.cells #[.int .i64 0, .string ⟨#[]⟩, .slice (some ⟨w1.heap.size + 1 + 1 + 1 + 1 + 1 + 1, 0, none⟩) 1 1] 35)).alloc (.cells #[.slice (some ⟨w1.heap.size + 1 + 1 + 1 + 1 + 1 + 1 + 1, 0, none⟩) 1 1] 28)).alloc (.cells #[.int .i64 0, .string ⟨#[]⟩, .slice (some ⟨w1.heap.size + 1, 0, none⟩) 1 1, .int .i64 0, .string ⟨#[]⟩, .slice (some ⟨w1.heap.size + 1 + 1 + 1 + 1, 0, none⟩) 1 1, .int .i64 0, .string ⟨#[]⟩, .slice (some ⟨w1.heap.size + 1 + 1 + 1 + 1 + 1 + 1 + 1 + 1, 0, none⟩) 1 1] 35)) := ⟨_, rfl⟩
  have hbA : Below w1.heap.size w1 wA := by rw [hwA]; exact ba (ba (ba (ba (ba (ba (ba (ba (ba (ba (b0 w1) _) _) _) _) _) _) _) _) _) _
  have r0 : Rw wA (w1.heap.size) #[.string ⟨#[109]⟩, .int .i64 0, .int .i64 0, .int .i64 1, .string ⟨#[103]⟩, .int .i64 1, .int .i64 0, .int .i64 1, .string ⟨#[116]⟩, .int .i64 1, .int .i64 4, .int .i64 0] 49 := by rw [hwA]; exact ((((((((((Rw.new w1 _ _).alloc _).alloc _).alloc _).alloc _).alloc _).alloc _).alloc _).alloc _).alloc _)
  have r1 : Rw wA (w1.heap.size + 1) #[.slice none 0 0] 28 := by rw [hwA]; exact (((((((((Rw.new' (by simp)).alloc _).alloc _).alloc _).alloc _).alloc _).alloc _).alloc _).alloc _)
  have r2 : Rw wA (w1.heap.size + 1 + 1) #[.slice none 0 0] 28 := by rw [hwA]; exact ((((((((Rw.new' (by simp)).alloc _).alloc _).alloc _).alloc _).alloc _).alloc _).alloc _)
  have r3 : Rw wA (w1.heap.size + 1 + 1 + 1) #[.int .i64 0, .string ⟨#[]⟩, .slice (some ⟨w1.heap.size + 1 + 1, 0, none⟩) 1 1] 35 := by rw [hwA]; exact (((((((Rw.new' (by simp)).alloc _).alloc _).alloc _).alloc _).alloc _).alloc _)
  have r4 : Rw wA (w1.heap.size + 1 + 1 + 1 + 1) #[.slice (some ⟨w1.heap.size + 1 + 1 + 1, 0, none⟩) 1 1] 28 := by rw [hwA]; exact ((((((Rw.new' (by simp)).alloc _).alloc _).alloc _).alloc _).alloc _)
  have r5 : Rw wA (w1.heap.size + 1 + 1 + 1 + 1 + 1) #[.int .i64 0, .string ⟨#[]⟩, .slice none 0 0] 35 := by rw [hwA]; exact (((((Rw.new' (by simp)).alloc _).alloc _).alloc _).alloc _)
  have r6 : Rw wA (w1.heap.size + 1 + 1 + 1 + 1 + 1 + 1) #[.slice (some ⟨w1.heap.size + 1 + 1 + 1 + 1 + 1, 0, none⟩) 1 1] 28 := by rw [hwA]; exact ((((Rw.new' (by simp)).alloc _).alloc _).alloc _)
  have r7 : Rw wA (w1.heap.size + 1 + 1 + 1 + 1 + 1 + 1 + 1) #[.int .i64 0, .string ⟨#[]⟩, .slice (some ⟨w1.heap.size + 1 + 1 + 1 + 1 + 1 + 1, 0, none⟩) 1 1] 35 := by rw [hwA]; exact (((Rw.new' (by simp)).alloc _).alloc _)
  have r8 : Rw wA (w1.heap.size + 1 + 1 + 1 + 1 + 1 + 1 + 1 + 1) #[.slice (some ⟨w1.heap.size + 1 + 1 + 1 + 1 + 1 + 1 + 1, 0, none⟩) 1 1] 28 := by rw [hwA]; exact ((Rw.new' (by simp)).alloc _)
  have r9 : Rw wA (w1.heap.size + 1 + 1 + 1 + 1 + 1 + 1 + 1 + 1 + 1) #[.int .i64 0, .string ⟨#[]⟩, .slice (some ⟨w1.heap.size + 1, 0, none⟩) 1 1, .int .i64 0, .string ⟨#[]⟩, .slice (some ⟨w1.heap.size + 1 + 1 + 1 + 1, 0, none⟩) 1 1, .int .i64 0, .string ⟨#[]⟩, .slice (some ⟨w1.heap.size + 1 + 1 + 1 + 1 + 1 + 1 + 1 + 1, 0, none⟩) 1 1] 35 := by rw [hwA]; exact (Rw.new' (by simp))
  rw [← hwA]
  clear hwA
  have g0 := TrAt.grp' (n := 0) (s := ⟨#[]⟩) (ks := [[]]) 1 (by decide) r1 rfl (by decide) (KidAt.no' KidAt.nil')
  have g1 := TrAt.grp' (n := 0) (s := ⟨#[]⟩) (ks := [[.mk 0 ⟨#[]⟩ [[]]]]) 1 (by decide) r4 rfl (by decide) (KidAt.row' 1 rfl r3 rfl (by decide) (RowAt.one' (TrAt.grp' (n := 0) (s := ⟨#[]⟩) (ks := [[]]) 1 (by decide) r2 rfl (by decide) (KidAt.no' KidAt.nil')) RowAt.nil') KidAt.nil')
  have g2 := TrAt.grp' (n := 0) (s := ⟨#[]⟩) (ks := [[.mk 0 ⟨#[]⟩ [[.mk 0 ⟨#[]⟩ []]]]]) 1 (by decide) r8 rfl (by decide) (KidAt.row' 1 rfl r7 rfl (by decide) (RowAt.one' (TrAt.grp' (n := 0) (s := ⟨#[]⟩) (ks := [[.mk 0 ⟨#[]⟩ []]]) 1 (by decide) r6 rfl (by decide) (KidAt.row' 1 rfl r5 rfl (by decide) (RowAt.one' (TrAt.leaf'' (by decide)) RowAt.nil') KidAt.nil')) RowAt.nil') KidAt.nil')
  have hrow : RowAt wA three _ := RowAt.one' g0 (RowAt.one' g1 (RowAt.one' g2 RowAt.nil'))
  have hsl := row_sl r9 3 3 rfl (by decide)
  have hs0 : Sl (fun b => b < wA.heap.size) wA 4 (some ⟨w1.heap.size, 0, none⟩) 3 3 (fls fl3) := row_sl r0 3 4 rfl (by decide)
  have HBA := Lib.hid (bt HB1.out hbA); have HROW := Lib.hid hrow; have HSL := Lib.hid hsl; have HS0 := Lib.hid hs0; have HR9 := Lib.hid r9
  have hl9 := r9.lt
  obtain ⟨T9, hT9⟩ : ∃ T9, T9 = w1.heap.size + 1 + 1 + 1 + 1 + 1 + 1 + 1 + 1 + 1 := ⟨_, rfl⟩
  rw [← hT9] at HSL HR9 hl9 ⊢
  clear hT9 r0 r1 r2 r3 r4 r5 r6 r7 r8 r9 g0 g1 g2 hrow hsl hs0 hbA HB1
  go_wp2_with fail
  refine (within_9b n 3 wA (by decide) (by decide)).mono ?_
  rintro e w2 ⟨rfl, rfl⟩
  obtain ⟨i, hi⟩ : ∃ i : Nat, n % 3 = (i : Int) := ⟨(n % 3).toNat, by omega⟩
  have hi3 : i < 3 := by omega
  rw [hi]
  clear hi
  have hil : i < three.length := hi3
  have hsl := HSL.out
  obtain ⟨aS, hrS, hslS⟩ := Sl.part (P := Try.prog) (t := 28) Try.underlying28 hit hz1t hsl .i64 .i64 (i : Int) ((i : Int) + 1) (by omega) (by omega) (by omega)
  obtain ⟨c0', c1', c2', hys, hte⟩ := row_one (RowAt.g _ _ HROW.out) i hil
  have e1 : ((i : Int) + 1).toNat - (i : Int).toNat = 1 := by omega
  rw [e1] at hrS hslS
  rw [Int.toNat_natCast] at hrS hslS
  rw [show 1 * 3 = 3 from rfl] at hslS
  have hys' := hys
  rw [hys'] at hslS
  obtain ⟨ta, tm, tcap, _, hcs2, hxm, _, _, _⟩ := hte.parts'
  simp at hcs2
  obtain ⟨rfl, rfl, rfl⟩ := hcs2
  subst hxm
  have HTO := Lib.hid (three_ok three[i] (List.getElem_mem hil))
  have HSM := Lib.hid (fun j (hj : j < three.length) => three_same i j hil hj)
  have HTT := Lib.hid hte.at; have HSS := Lib.hid hslS
  have HLE : Hid ((encR sh3 [three[i]]).length ≤ 10000000000000) := Lib.hid (by
    have h1 := encT_len sh3 three[i] HTO.out
    have h2 : three[i].size ≤ 3 := by
      match i, hil with
      | 0, _ => simp [three, Tr.size, sizeLL, sizeL]
      | 1, _ => simp [three, Tr.size, sizeLL, sizeL]
      | 2, _ => simp [three, Tr.size, sizeLL, sizeL]
      | i + 3, h => simp [three] at h; omega
    have h3 : sh3.size = 3 := by simp [sh3, Sh.size, shSizes]
    rw [h3] at h1
    rw [encR_one, List.length_cons]
    have : 110 * 3 * three[i].size ≤ 110 * 3 * 3 := Nat.mul_le_mul_left _ h2
    omega)
  generalize three[i] = t at *
  clear hys hys' hte hslS e1 hsl
  go_wp2_with fail
  refine (bytes_v fl3 sh3 sch3 (some ⟨w1.heap.size, 0, none⟩) 3 [t] aS (3 - i) _ wA HS0.out HSS.out (one_rw9 HTT.out) HLE.out).mono ?_
  rintro e w5 ⟨a5, c5, rfl, ho5, hb5⟩
  have HO5 := Lib.hid (ho5.sl.mono (ok' := fun b => b < w5.heap.size) (fun k hk _ => hk) (by decide))
  have HB5 := Lib.hid hb5
  clear ho5 hb5 hrS
  go_wp2_with fail
  refine (parse_v fl3 sh3 sch3 (some ⟨w1.heap.size, 0, none⟩) 3 a5 c5 (encR sh3 [t]) w5 (slb HS0.out HB5.out) HO5.out HLE.out).mono ?_
  rintro e w6 ⟨x, a6, c6, ys, e6, rfl, hs6, hr6, hp6, hb6⟩
  rw [decR_enc sh3 [t] (by simp) (by intro u hu; simp at hu; subst hu; exact HTO.out)] at hp6
  obtain ⟨rfl, rfl⟩ := hp6
  have HB6 := Lib.hid (bt HB5.out hb6)
  obtain ⟨xb, xoff, rfl, hxb, hxc⟩ := hs6.pos (by simp)
  obtain ⟨e0, e1, e2, u0, u1, u2, hte⟩ := hr6.get' 0 (by simp)
  simp only [List.getElem_cons_zero] at hte
  obtain ⟨ua, um, ucap, _, hcs2, hxm, _, _, _⟩ := hte.parts'
  simp at hcs2
  obtain ⟨rfl, rfl, rfl⟩ := hcs2
  subst hxm
  have x0 := hxc _ _ u0; have x1 := hxc _ _ u1; have x2 := hxc _ _ u2
  have HX := Lib.hid (And.intro x0 (And.intro x1 x2)); have HTX := Lib.hid hte.at
  clear hs6 hr6 hb6 hxc u0 u1 u2 hte x0 x1 x2
  go_wp2_with fail
  go_loopw [8] (fun iv wr => ∃ j : Nat, iv = .int .i64 (j : Int) ∧ j ≤ 3 ∧ Hid (Below w6.heap.size w6 wr)) (fun iv _ => 3 - (intOf iv).toNat)
  case atStart => exact ⟨0, rfl, by decide, Lib.hid (b0 w6)⟩
  case round =>
    obtain ⟨j, rfl, hj, HB⟩ := hrel
    by_cases hlt : j < 3
    · have hjl : j < three.length := hlt
      obtain ⟨b9, off9, hab, _, hc9⟩ := HSL.out.pos (by decide)
      injection hab with hab
      injection hab with h91 h92
      subst h91
      subst h92
      obtain ⟨e0, e1, e2, v0, v1, v2, htf⟩ := (RowAt.g _ _ HROW.out).get' j hjl
      obtain ⟨va, vm, vcap, _, hcs2, hym, _, _, _⟩ := htf.parts'
      simp at hcs2
      obtain ⟨rfl, rfl, rfl⟩ := hcs2
      subst hym
      have y0 := cb HB.out (cb HB6.out (hc9 _ _ v0)); have y1 := cb HB.out (cb HB6.out (hc9 _ _ v1)); have y2 := cb HB.out (cb HB6.out (hc9 _ _ v2))
      rw [Nat.zero_add] at y0
      rw [← Nat.add_assoc, Nat.zero_add] at y1 y2
      have hx := HX.out
      have x0 := cb HB.out hx.1; have x1 := cb HB.out hx.2.1; have x2 := cb HB.out hx.2.2
      have hse := HSM.out j hjl
      have hse2 : Hid (sameT t three[j] = ((j : Int) == (i : Int))) := Lib.hid (by
        rw [hse]
        by_cases h : j = i
        · simp [h]
        · have : ¬ (j : Int) = (i : Int) := by omega
          simp [h, this])
      have HTJ := Lib.hid (TrAt.below HB.out _ _ (TrAt.below HB6.out _ _ htf.at))
      generalize three[j] = u at *
      have HCC := Lib.hid (And.intro (And.intro x0 (And.intro x1 x2)) (And.intro y0 (And.intro y1 y2)))
      have hj0 : (0 : Int) ≤ (j : Int) := by omega
      have hj3 : (j : Int) < 3 := by omega
      clear hc9 v0 v1 v2 htf x0 x1 x2 y0 y1 y2 hse hx
      go_wp2_with fail
      refine Go.Shr.wp_region_F (fun w' => (w'.cell? ⟨xb, xoff + 0 * 3, none⟩ = some (.int .i64 t.n) ∧ w'.cell? ⟨xb, xoff + (0 * 3 + 1), none⟩ = some (.string t.s) ∧ w'.cell? ⟨xb, xoff + (0 * 3 + 2), none⟩ = some (.slice ua t.kids.length ucap)) ∧ (w'.cell? ⟨T9, j * 3, none⟩ = some (.int .i64 u.n) ∧ w'.cell? ⟨T9, j * 3 + 1, none⟩ = some (.string u.s) ∧ w'.cell? ⟨T9, j * 3 + 2, none⟩ = some (.slice va u.kids.length vcap))) [] (by kernel_rfl) ?g1rgS (fun hHeld => ?g1rgR)
      case g1rgS => (try dsimp only); (first | exact HCC.out | exact ⟨⟨cb hb8 HCC.out.1.1, cb hb8 HCC.out.1.2.1, cb hb8 HCC.out.1.2.2⟩, cb hb8 HCC.out.2.1, cb hb8 HCC.out.2.2.1, cb hb8 HCC.out.2.2.2⟩)
      try dsimp only at hHeld
      refine Go.Shr.wpAnyF_take 0 (oi := { dst := some 55, op := Go.Op.move (Go.Operand.tmp 6), type := 28, pos := "law.go:105", after := #[], guard := none }) (v := ?g1rv1) rfl (by kernel_rfl) (fun _ _ _ h => h) (by assumption) (by rfl) ?g1ry1 ?g1rr1
      case g1ry1 => intro w hSw; (obtain ⟨⟨s1, s2, s3⟩, s4, s5, s6⟩ := hSw); (simp only [Nat.zero_mul, Nat.zero_add, Nat.add_zero] at s1 s2 s3); go_simp; try with_reducible rfl
      try simp only [Act.put, List.setIfInBounds_toArray, List.set_cons_zero, List.set_cons_succ]
      refine Go.Shr.wpAnyF_take 1 (oi := { dst := some 56, op := Go.Op.indexAddr 28 (Go.Operand.tmp 55) (Go.Operand.const (Go.Value.int Go.IntKind.i64 0)), type := 0, pos := "law.go:105", after := #[{ on := 0, ground := Go.Ground.data }], guard := none }) (v := ?g1rv2) rfl (by kernel_rfl) (fun _ _ _ h => h) (by assumption) (by rfl) ?g1ry2 ?g1rr2
      case g1ry2 => intro w hSw; (obtain ⟨⟨s1, s2, s3⟩, s4, s5, s6⟩ := hSw); (simp only [Nat.zero_mul, Nat.zero_add, Nat.add_zero] at s1 s2 s3); go_simp; try with_reducible rfl
      try simp only [Act.put, List.setIfInBounds_toArray, List.set_cons_zero, List.set_cons_succ]
      refine Go.Shr.wpAnyF_take 2 (oi := { dst := some 57, op := Go.Op.load 35 (Go.Operand.tmp 56), type := 35, pos := "law.go:105", after := #[{ on := 1, ground := Go.Ground.data }], guard := none }) (v := ?g1rv3) rfl (by kernel_rfl) (fun _ _ _ h => h) (by assumption) (by rfl) ?g1ry3 ?g1rr3
      case g1ry3 => intro w hSw; (obtain ⟨⟨s1, s2, s3⟩, s4, s5, s6⟩ := hSw); (simp only [Nat.zero_mul, Nat.zero_add, Nat.add_zero] at s1 s2 s3); go_simp; try with_reducible rfl
      try simp only [Act.put, List.setIfInBounds_toArray, List.set_cons_zero, List.set_cons_succ]
      refine Go.Shr.wpAnyF_take 3 (oi := { dst := some 58, op := Go.Op.move (Go.Operand.tmp 4), type := 28, pos := "law.go:105", after := #[], guard := none }) (v := ?g1rv4) rfl (by kernel_rfl) (fun _ _ _ h => h) (by assumption) (by rfl) ?g1ry4 ?g1rr4
      case g1ry4 => intro w hSw; (obtain ⟨⟨s1, s2, s3⟩, s4, s5, s6⟩ := hSw); (simp only [Nat.zero_mul, Nat.zero_add, Nat.add_zero] at s1 s2 s3); go_simp; try with_reducible rfl
      try simp only [Act.put, List.setIfInBounds_toArray, List.set_cons_zero, List.set_cons_succ]
      refine Go.Shr.wpAnyF_take 4 (oi := { dst := some 59, op := Go.Op.move (Go.Operand.tmp 8), type := 3, pos := "law.go:105", after := #[], guard := none }) (v := ?g1rv5) rfl (by kernel_rfl) (fun _ _ _ h => h) (by assumption) (by rfl) ?g1ry5 ?g1rr5
      case g1ry5 => intro w hSw; (obtain ⟨⟨s1, s2, s3⟩, s4, s5, s6⟩ := hSw); (simp only [Nat.zero_mul, Nat.zero_add, Nat.add_zero] at s1 s2 s3); go_simp; try with_reducible rfl
      try simp only [Act.put, List.setIfInBounds_toArray, List.set_cons_zero, List.set_cons_succ]
      refine Go.Shr.wpAnyF_take 5 (oi := { dst := some 60, op := Go.Op.indexAddr 28 (Go.Operand.tmp 58) (Go.Operand.tmp 59), type := 0, pos := "law.go:105", after := #[{ on := 3, ground := Go.Ground.data }, { on := 4, ground := Go.Ground.data }], guard := none }) (v := ?g1rv6) rfl (by kernel_rfl) (fun _ _ _ h => h) (by assumption) (by rfl) ?g1ry6 ?g1rr6
      case g1ry6 => intro w hSw; (obtain ⟨⟨s1, s2, s3⟩, s4, s5, s6⟩ := hSw); (simp only [Nat.zero_mul, Nat.zero_add, Nat.add_zero] at s1 s2 s3); go_simp; try with_reducible rfl
      try simp only [Act.put, List.setIfInBounds_toArray, List.set_cons_zero, List.set_cons_succ]
      refine Go.Shr.wpAnyF_take 6 (oi := { dst := some 61, op := Go.Op.load 35 (Go.Operand.tmp 60), type := 35, pos := "law.go:105", after := #[{ on := 5, ground := Go.Ground.data }], guard := none }) (v := ?g1rv7) rfl (by kernel_rfl) (fun _ _ _ h => h) (by assumption) (by rfl) ?g1ry7 ?g1rr7
      case g1ry7 => intro w hSw; (obtain ⟨⟨s1, s2, s3⟩, s4, s5, s6⟩ := hSw); (simp only [Nat.zero_mul, Nat.zero_add, Nat.add_zero] at s1 s2 s3); go_simp; try with_reducible rfl
      try simp only [Act.put, List.setIfInBounds_toArray, List.set_cons_zero, List.set_cons_succ]
      refine Go.Shr.wpAnyF_take 8 (oi := { dst := some 63, op := Go.Op.move (Go.Operand.tmp 8), type := 3, pos := "law.go:105", after := #[], guard := none }) (v := ?g1rv8) rfl (by kernel_rfl) (fun _ _ _ h => h) (by assumption) (by rfl) ?g1ry8 ?g1rr8
      case g1ry8 => intro w hSw; (obtain ⟨⟨s1, s2, s3⟩, s4, s5, s6⟩ := hSw); (simp only [Nat.zero_mul, Nat.zero_add, Nat.add_zero] at s1 s2 s3); go_simp; try with_reducible rfl
      try simp only [Act.put, List.setIfInBounds_toArray, List.set_cons_zero, List.set_cons_succ]
      refine Go.Shr.wpAnyF_take 9 (oi := { dst := some 64, op := Go.Op.move (Go.Operand.tmp 5), type := 3, pos := "law.go:105", after := #[], guard := none }) (v := ?g1rv9) rfl (by kernel_rfl) (fun _ _ _ h => h) (by assumption) (by rfl) ?g1ry9 ?g1rr9
      case g1ry9 => intro w hSw; (obtain ⟨⟨s1, s2, s3⟩, s4, s5, s6⟩ := hSw); (simp only [Nat.zero_mul, Nat.zero_add, Nat.add_zero] at s1 s2 s3); go_simp; try with_reducible rfl
      try simp only [Act.put, List.setIfInBounds_toArray, List.set_cons_zero, List.set_cons_succ]
      refine Go.Shr.wpAnyF_take 10 (oi := { dst := some 65, op := Go.Op.binOp Go.BinOp.eql 3 (Go.Operand.tmp 63) (Go.Operand.tmp 64) 3, type := 4, pos := "law.go:105", after := #[{ on := 8, ground := Go.Ground.data }, { on := 9, ground := Go.Ground.data }], guard := none }) (v := ?g1rv10) rfl (by kernel_rfl) (fun _ _ _ h => h) (by assumption) (by rfl) ?g1ry10 ?g1rr10
      case g1ry10 => intro w hSw; (obtain ⟨⟨s1, s2, s3⟩, s4, s5, s6⟩ := hSw); (simp only [Nat.zero_mul, Nat.zero_add, Nat.add_zero] at s1 s2 s3); go_simp; try with_reducible rfl
      try simp only [Act.put, List.setIfInBounds_toArray, List.set_cons_zero, List.set_cons_succ]
      refine Go.Shr.wpAnyF_ready [7] (by kernel_rfl) (by simp) ?_
      refine Go.Shr.AllReadyF.cons 7 (o := { dst := some 62, op := Go.Op.call { callee := Go.Callee.value (Go.Operand.func 22), args := #[Go.Operand.tmp 57, Go.Operand.tmp 61], argTypes := #[35, 35] }, type := 4, pos := "law.go:105", after := #[{ on := 2, ground := Go.Ground.data }, { on := 6, ground := Go.Ground.data }], guard := none }) rfl (fun K hK => ?g1ro11) ?g1rm11
      case g1rm11 => exact Go.Shr.AllReadyF.nil
      go_simp; refine (same_all (t.size + 1) t u (by omega) ua va ucap vcap wr.drew (TrAt.below HB.out.drew _ _ HTX.out) (TrAt.below (b0 wr).drew _ _ HTJ.out)).mono ?_; rintro e w8 ⟨rfl, hb8⟩; rw [hse2.out]; dsimp only
      refine hK.out _ _ ?g1rs11 (fun hHeld => ?g1rt11)
      case g1rs11 => (try dsimp only); (first | exact HCC.out | exact ⟨⟨cb hb8 HCC.out.1.1, cb hb8 HCC.out.1.2.1, cb hb8 HCC.out.1.2.2⟩, cb hb8 HCC.out.2.1, cb hb8 HCC.out.2.2.1, cb hb8 HCC.out.2.2.2⟩)
      try dsimp only at hHeld
      clear hK K
      try simp only [Act.put, List.setIfInBounds_toArray, List.set_cons_zero, List.set_cons_succ]
      refine Go.Shr.wpAnyF_take 11 (oi := { dst := some 66, op := Go.Op.binOp Go.BinOp.neq 4 (Go.Operand.tmp 62) (Go.Operand.tmp 65) 4, type := 4, pos := "law.go:105", after := #[{ on := 7, ground := Go.Ground.data }, { on := 10, ground := Go.Ground.data }], guard := none }) (v := ?g1rv12) rfl (by kernel_rfl) (fun _ _ _ h => h) (by assumption) (by rfl) ?g1ry12 ?g1rr12
      case g1ry12 => intro w hSw; (obtain ⟨⟨s1, s2, s3⟩, s4, s5, s6⟩ := hSw); (simp only [Nat.zero_mul, Nat.zero_add, Nat.add_zero] at s1 s2 s3); go_simp; (try simp only [bne_self_eq_false]); (try with_reducible rfl)
      try simp only [Act.put, List.setIfInBounds_toArray, List.set_cons_zero, List.set_cons_succ]
      refine Go.Shr.wpAnyF_done (by kernel_rfl) ?_
      clear hHeld
      have hb8' : Below wr.heap.size wr w8 := bt (b0 wr).drew hb8
      have HB8 := Lib.hid (bt HB.out hb8')
      clear hb8 hb8' HCC
      go_wp2_with fail
      go_roundw
      case rel => exact ⟨j + 1, by go_num, by omega, HB8⟩
      case measure => simp [intOf]; omega
    · obtain rfl : j = 3 := by omega
      go_wp2_with fail
      go_ret
      exact ⟨rfl, bt (bt HBA.out HB6.out) HB.out⟩
end Go.Proofs.Ytofhlopedflkiaa
