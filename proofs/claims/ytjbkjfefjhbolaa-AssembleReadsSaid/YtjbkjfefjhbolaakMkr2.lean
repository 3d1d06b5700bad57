import Derived.Test.YtjbkjfefjhbolaakMk
set_option linter.all false
open List renaming length_singleton → zLP, length_append → zLQ, getD_eq_getElem?_getD → zLS, getElem?_eq_some_iff → zLT
open Int renaming emod_nonneg → zLR, emod_lt_of_pos → zLU
open Nat renaming add_assoc → zLV, le_of_lt → zLW, zero_le → zLX
set_option maxHeartbeats 40000000
set_option maxRecDepth 100000
namespace Go.Proofs.Ytjbkjfefjhbolaa
open Go.RowKit Go.Shr
theorem zBs (a n : Int) (w : World) (hn : 0 < n) (hn2 : n ≤ 1000000) : Calls Try.prog 57 #[.int .i64 a, .int .i64 n] w fun e w' => e = .returned (.int .i64 (a % n)) ∧ w = w' := by
 have h1 := Int.tmod_lt_of_pos a hn
 have h3 : -n < a.tmod n := by
  have := Int.lt_tmod_of_pos a hn
  omega
 have H := zH (zDH a n hn)
 go_enter Try.func57, Try.ntmps57
 go_wp2
 ·go_ret
  exact ⟨zX (H.out.1 (by assumption)), rfl⟩
 ·go_ret
  exact ⟨zX (H.out.2 (by assumption)), rfl⟩
structure MC where
 M : Nat
 sa : Option Addr
 pa : Option Addr
 na : Option Addr
 sc : Nat
 pc : Nat
 nc : Nat
structure Mkr (w : World) (c : MC) (l : List Fl) (P ns : List Int) (k : Nat) : Prop where
 rw : Rw w c.M #[.slice c.sa l.length c.sc, .slice c.pa l.length c.pc, .slice c.na ns.length c.nc, .int .i64 (k : Int)] 88
 s : Sl (fun b => b < c.M) w 4 c.sa l.length c.sc (fls l)
 p : Sl (fun b => b < c.M) w 1 c.pa l.length c.pc (zQ P)
 n : Sl (fun b => b < c.M) w 1 c.na ns.length c.nc (zQ ns)
 lt : k ≤ ns.length
section
variable {w w' : World} {c : MC} {l : List Fl} {P ns : List Int} {k : Nat}
theorem Mkr.chg {S : Nat → Prop} (h : Mkr w c l P ns k) (hc : Chg S w w') (hn : ∀ k, k ≤ c.M → ¬ S k) : Mkr w' c l P ns k :=
 ⟨h.rw.chg hc (hn c.M (Nat.le_refl _)), h.s.chg hc (fun k hk => hn k (zLW hk)), h.p.chg hc (fun k hk => hn k (zLW hk)), h.n.chg hc (fun k hk => hn k (zLW hk)), h.lt⟩
theorem Mkr.below (h : Mkr w c l P ns k) (hb : Below w.heap.size w w') : Mkr w' c l P ns k := h.chg (Chg.ofBelow hb) (fun k hk h2 => by have := h.rw.lt; omega)
theorem Mkr.drew (h : Mkr w c l P ns k) : Mkr w.drew c l P ns k := h.below (Below.refl _ _).drew
theorem Mkr.put (h : Mkr w c l P ns k) {j : Nat} (hj : j ≤ ns.length) : Mkr (w.setCell ⟨c.M, 3, none⟩ (.int .i64 (j : Int))) c l P ns j := by
 have hc : Chg (fun b => b = c.M) w (w.setCell ⟨c.M, 3, none⟩ (.int .i64 (j : Int))) := (Chg.refl (fun b => b = c.M) w).setCell (p := ⟨c.M, 3, none⟩) (.inr rfl) _
 exact ⟨h.rw.set 3 _, h.s.chg hc (fun k hk => by omega), h.p.chg hc (fun k hk => by omega), h.n.chg hc (fun k hk => by omega), hj⟩
end
theorem zFu {c : MC} {l : List Fl} {P ns : List Int} {k : Nat} (w : World) (h : Mkr w c l P ns k) :
  Calls Try.prog 56 #[.pointer (some ⟨c.M, 0, none⟩)] w fun e w' => e = .returned (.int .i64 (ns.getD k 0)) ∧ Mkr w' c l P ns (yC ns k) ∧ Chg (fun b => b = c.M) w w' := by
 obtain ⟨M, sa, pa, na, sc, pc, nc⟩ := c
 have hr := h.rw
 have hkl := h.lt
 have hmx := Nat.le_trans h.n.le h.n.max
 unfold maxLen at hmx
 dsimp only at *
 have H := zH h
 by_cases hk : k < ns.length
 ·have hE : Hid (yC ns k = k + 1) := zH (by unfold yC; rw [if_pos hk])
  have hG : Hid (ns.getD k 0 = ns[k]) := zH (by rw [zLS, List.getElem?_eq_getElem hk]; rfl)
  have HP := zH (h.put (j := k + 1) hk)
  obtain ⟨b, off, rfl, hb, hc⟩ := h.n.pos (by omega)
  have c0 := hc _ _ (zO ns k hk)
  generalize ns[k] = x at *
  have hlt := hr.lt
  have hfr := hr.frozen
  have q3 : w.cell? ⟨M, 3, none⟩ = some (.int .i64 (k : Int)) := hr.cell 3
  clear h hc
  have HR := zH hr; clear hr
  have hkk : ((k : Int) < (ns.length : Int)) := by omega
  generalize hnl : ns.length = n at *
  have HNL := zH hnl; clear hnl
  go_enter Try.func56, Try.ntmps56
  go_wp2_with fail
  refine zF (fun w' => w'.cell? ⟨M, 3, none⟩ = some (.int .i64 (k : Int)) ∧ w'.cell? ⟨M, 2, none⟩ = some (.slice (some ⟨b, off, none⟩) n nc)) [9] (by kernel_rfl) ?g5rgS (fun hHeld => ?g5rgR)
  case g5rgS => (try dsimp only); (exact ⟨q3, HR.out.cell 2⟩)
  try dsimp only at hHeld
  refine zD [0, 1, 2, 3, 4, 5, 6, 7, 8] 1 (by kernel_rfl) (fun _ _ _ _ _ h => h) (by assumption) ?_
  iterate 9 ((apply YA.take rfl (by rfl); case hy => rintro w ⟨g1, g2⟩; go_simp; try with_reducible rfl); try simp only [pD])
  refine YA.nil ?_
  refine zB [9] (by kernel_rfl) (by simp) ?_
  refine zA.lst 9 rfl (by kernel_rfl) (fun K hK => ?g5ro1) ?g5rm1
  case g5rm1 => exact zA.nil
  go_simp
  refine hK.out _ _ ?_
  clear hK K
  try simp only [pD]
  refine zE (by kernel_rfl) ?_
  have p0 := (HR.out.set 3 (.int .i64 ((k : Int) + 1)))
  have p3 : (w.setCell ⟨M, 3, none⟩ (.int .i64 ((k : Int) + 1))).cell? ⟨M, 3, none⟩ = some (.int .i64 ((k : Int) + 1)) := p0.cell 3
  have p2 : (w.setCell ⟨M, 3, none⟩ (.int .i64 ((k : Int) + 1))).cell? ⟨M, 2, none⟩ = some (.slice (some ⟨b, off, none⟩) n nc) := p0.cell 2
  have pn : (w.setCell ⟨M, 3, none⟩ (.int .i64 ((k : Int) + 1))).cell? ⟨b, off + k, none⟩ = some (.int .i64 x) := by
   have h := HP.out.n
   have h2 := ((Chg.refl (fun b => b = M) w).setCell (p := ⟨M, 3, none⟩) (.inr rfl) (.int .i64 ((k : Int) + 1))).keep c0 (by omega)
   exact h2
  have P2 := zH p2; have P3 := zH p3; have PN := zH pn
  clear p0 p2 p3 pn hHeld c0
  have q2 : w.cell? ⟨M, 2, none⟩ = some (.slice (some ⟨b, off, none⟩) n nc) := HR.out.cell 2
  go_wp2_with fail
  have hwk : IntKind.i64.wrap (k : Int) = (k : Int) := IntWalk.i64_in _ ⟨by omega, by omega⟩
  have hk0 : (0 : Int) ≤ (k : Int) := by omega
  refine zF (fun w' => w'.cell? ⟨M, 3, none⟩ = some (.int .i64 ((k : Int) + 1)) ∧ w'.cell? ⟨M, 2, none⟩ = some (.slice (some ⟨b, off, none⟩) n nc) ∧ w'.cell? ⟨b, off + k, none⟩ = some (.int .i64 x)) [11] (by kernel_rfl) ?g6rgS (fun hHeld => ?g6rgR)
  case g6rgS => (try dsimp only); (exact ⟨P3.out, P2.out, PN.out⟩)
  try dsimp only at hHeld
  refine zD [0, 1, 2, 3, 4, 5, 6, 7, 8, 9, 10] 1 (by kernel_rfl) (fun _ _ _ _ _ h => h) (by assumption) ?_
  iterate 11 ((apply YA.take rfl (by rfl); case hy => rintro w ⟨g1, g2, g3⟩; go_simp; try with_reducible rfl); try simp only [pD])
  refine YA.nil ?_
  refine zB [11] (by kernel_rfl) (by simp) ?_
  refine zA.lst 11 rfl (by kernel_rfl) (fun K hK => ?g6ro1) ?g6rm1
  case g6rm1 => exact zA.nil
  go_simp
  refine hK.out _ _ ?_
  clear hK K
  try simp only [pD]
  refine zE (by kernel_rfl) ?_
  go_wp2_with fail
  go_ret
  refine ⟨zX hG.out.symm, ?_, ((((Chg.refl (fun b => b = M) w)).setCell (p := ⟨M, 3, none⟩) (.inr rfl) _)).drew.drew⟩
  rw [hE.out]
  exact HP.out.drew.drew
 ·have hE : Hid (yC ns k = k) := zH (by unfold yC; rw [if_neg hk])
  have hG : Hid (ns.getD k 0 = 0) := zH (by rw [zLS, List.getElem?_eq_none (by omega)]; rfl)
  have q3 : w.cell? ⟨M, 3, none⟩ = some (.int .i64 (k : Int)) := hr.cell 3
  have hlt := hr.lt
  clear h
  have HR := zH hr; clear hr
  have hkk : ¬ ((k : Int) < (ns.length : Int)) := by omega
  generalize hnl : ns.length = n at *
  have HNL := zH hnl; clear hnl
  go_enter Try.func56, Try.ntmps56
  go_wp2_with fail
  refine zF (fun w' => w'.cell? ⟨M, 3, none⟩ = some (.int .i64 (k : Int)) ∧ w'.cell? ⟨M, 2, none⟩ = some (.slice na n nc)) [9] (by kernel_rfl) ?g7rgS (fun hHeld => ?g7rgR)
  case g7rgS => (try dsimp only); (exact ⟨q3, HR.out.cell 2⟩)
  try dsimp only at hHeld
  refine zD [0, 1, 2, 3, 4, 5, 6, 7, 8] 1 (by kernel_rfl) (fun _ _ _ _ _ h => h) (by assumption) ?_
  iterate 9 ((apply YA.take rfl (by rfl); case hy => rintro w ⟨g1, g2⟩; go_simp; try with_reducible rfl); try simp only [pD])
  refine YA.nil ?_
  refine zB [9] (by kernel_rfl) (by simp) ?_
  refine zA.lst 9 rfl (by kernel_rfl) (fun K hK => ?g7ro1) ?g7rm1
  case g7rm1 => exact zA.nil
  go_simp
  refine hK.out _ _ ?_
  clear hK K
  try simp only [pD]
  refine zE (by kernel_rfl) ?_
  go_wp2_with fail
  go_ret
  exact ⟨zX hG.out.symm, by rw [hE.out]; exact H.out.drew, (Chg.refl _ _).drew⟩
def zIA (c : MC) (l : List Fl) (P ns : List Int) (r : Tr × Nat) (w : World) (e : Ending) (w' : World) : Prop :=
 ∃ a m cap, e = .returned (.agg #[.int .i64 r.1.n, .string r.1.s, .slice a m cap]) ∧ TrG (fun b => w.heap.size ≤ b) w' r.1 [.int .i64 r.1.n, .string r.1.s, .slice a m cap] ∧ Mkr w' c l P ns r.2 ∧ Chg (fun b => b = c.M) w w'
def zIu (c : MC) (l : List Fl) (P ns : List Int) (sh : Sh) : Prop :=
 ∀ (i k : Nat) (w : World), Mkr w c l P ns k → Ix l (fun v => zK P v) i sh → zR sh → Calls Try.prog 36 #[.pointer (some ⟨c.M, 0, none⟩), .int .i64 (i : Int)] w (zIA c l P ns (mkT ns sh k) w)
theorem zIA.leaf {c : MC} {l : List Fl} {P ns : List Int} {r : Tr × Nat} {w w1 : World} (hr : r.1.kids = []) (hs : r.1.s.size ≤ maxLen) (hm : Mkr w1 c l P ns r.2) (hc : Chg (fun b => b = c.M) (w.alloc (.cells #[.int .i64 0, .string ByteArray.empty, .slice none 0 0] 57)) w1) (hM : c.M < w.heap.size) :
  zIA c l P ns r w (.returned (.agg #[.int .i64 r.1.n, .string r.1.s, .slice none 0 0])) (((w1.setCell ⟨w.heap.size, 0, none⟩ (.int .i64 r.1.n)).setCell ⟨w.heap.size, 1, none⟩ (.string r.1.s)).setCell ⟨w.heap.size, 2, none⟩ (.slice none 0 0)) := by
 have h2 : Chg (fun b => b = w.heap.size) w1 (((w1.setCell ⟨w.heap.size, 0, none⟩ (.int .i64 r.1.n)).setCell ⟨w.heap.size, 1, none⟩ (.string r.1.s)).setCell ⟨w.heap.size, 2, none⟩ (.slice none 0 0)) := (((Chg.refl (fun b => b = w.heap.size) w1).setCell (p := ⟨w.heap.size, 0, none⟩) (.inr rfl) _).setCell (p := ⟨w.heap.size, 1, none⟩) (.inr rfl) _).setCell (p := ⟨w.heap.size, 2, none⟩) (.inr rfl) _
 refine ⟨none, 0, 0, rfl, ?_, hm.chg h2 (fun k hk => by omega), (((Chg.refl (fun b => b = c.M) w).alloc _).trans hc (fun _ _ h => h)).trans h2 (fun i hi h => by omega)⟩
 obtain ⟨⟨n, s, ks⟩, k⟩ := r
 simp only [Tr.kids] at hr
 subst hr
 exact TrG.leaf hs
theorem sz0 : (⟨#[]⟩ : ByteArray).size ≤ maxLen := by decide
theorem zLb (m : Nat) : (abc.extract 0 m).size ≤ maxLen := by
 have h : abc.size = 12 := rfl
 simp only [ByteArray.size_extract, maxLen]; omega
theorem zGs {c : MC} {l : List Fl} {P ns : List Int} (hns : ∀ z ∈ ns, (Lit.int .i64 z).wf = true) (sh : Sh) (hk : sh.kind ≠ 0) : zIu c l P ns sh := by
 intro i k w h hix hg
 obtain ⟨nm, rp, kd, ks⟩ := sh
 simp only [Sh.kind] at hk
 simp only [Ix] at hix
 simp only [zR] at hg
 obtain ⟨_, _, hk0, hk4, hks, _, _⟩ := hg
 obtain ⟨hix1, _, _⟩ := hix
 obtain ⟨hil, hie⟩ := zLT.1 hix1
 obtain ⟨_, _, f2, _⟩ := yB l i hil
 rw [hie] at f2
 dsimp only at f2
 have hMl := h.rw.lt
 have hmx := Nat.le_trans h.s.le h.s.max
 unfold maxLen at hmx
 obtain ⟨sb, soff, hsa, hsb, hsc⟩ := h.s.pos (by omega)
 replace f2 := hsc _ _ f2
 rw [← zLV] at f2
 have H := zH h
 have hxb : -9223372036854775808 ≤ ns.getD k 0 ∧ ns.getD k 0 ≤ 9223372036854775807 := by
  rw [zLS]
  cases hg : ns[k]? with
  | none => simp
  | some x =>
   have := hns x (List.mem_of_getElem? hg)
   simp [Lit.wf, IntKind.min, IntKind.max, IntKind.bits, IntKind.signed] at this
   simp; omega
 have HS := zH hsa; have HKS := zH hks
 clear h hsc hix1 hie hks hsa
 go_enter Try.func36, Try.ntmps36
 go_wp2_with fail
 refine zGl (fun wA hwA => ?_)
 have hA : Below w.heap.size w wA := by rw [hwA]; exact ba (b0 w) _
 have rA : Rw wA w.heap.size #[.int .i64 0, .string ByteArray.empty, .slice none 0 0] 57 := by rw [hwA]; exact Rw.new w _ _
 have HWA : Hid (wA = w.alloc (.cells #[.int .i64 0, .string ByteArray.empty, .slice none 0 0] 57)) := zH hwA
 clear hwA
 have hm0 := H.out.below hA
 refine (zFu wA hm0).mono ?_
 rintro e w1 ⟨rfl, hm1, hc1⟩
 have r1 := rA.chg hc1 (show ¬ (w.heap.size = c.M) by omega)
 have r1l := r1.lt
 have r1f := r1.frozen
 have hSb := cb hA f2
 replace f2 := hc1.keep hSb (show ¬ (sb = c.M) by omega)
 have q0 : w1.cell? ⟨c.M, 0, none⟩ = some (.slice (some ⟨sb, soff, none⟩) l.length c.sc) := by rw [hm1.rw.cell, HS.out]; rfl
 have z0 : w1.cell? ⟨w.heap.size, 0, none⟩ = some (.int .i64 0) := r1.cell 0
 have z1 : w1.cell? ⟨w.heap.size, 1, none⟩ = some (.string ByteArray.empty) := r1.cell 1
 have z2 : w1.cell? ⟨w.heap.size, 2, none⟩ = some (.slice none 0 0) := r1.cell 2
 rw [HWA.out] at hc1
 have HM1 := zH hm1; have HC1 := zH hc1
 have hk : kd = 1 ∨ kd = 2 ∨ kd = 3 ∨ kd = 4 := by omega
 clear hm1 hc1 r1 rA hA hm0 hSb HKS hk0 hk4 hns
 have HX : Hid (ns.getD k 0 = ns.getD k 0) := zH rfl
 rcases hk with rfl | rfl | rfl | rfl
 ·have HT : Hid (mkT ns (.mk nm rp 1 ks) k = (.mk ((ns.getD k 0) % 2) ⟨#[]⟩ [], yC ns k)) := zH (by simp [mkT])
  generalize ns.getD k 0 = x at *
  go_wp2_with fail
  refine (zBs x 2 w1 (by decide) (by decide)).mono ?_
  rintro e w2 ⟨rfl, rfl⟩
  go_wp2_with fail
  refine bodyPost_ret (v := .agg #[.int .i64 (x % 2), .string ⟨#[]⟩, .slice none 0 0]) (by simp [results, Try.results36, go_sem, z0, z1, z2]) rfl ?_
  rw [HT.out]
  exact zIA.leaf rfl sz0 HM1.out HC1.out hMl
 ·have HT : Hid (mkT ns (.mk nm rp 2 ks) k = (.mk ((ns.getD k 0) % 300 - 100) ⟨#[]⟩ [], yC ns k)) := zH (by simp [mkT])
  generalize ns.getD k 0 = x at *
  have m1 := zLR x (show (300 : Int) ≠ 0 by decide)
  have m2 := zLU x (show (0 : Int) < 300 by decide)
  go_wp2_with fail
  refine (zBs x 300 w1 (by decide) (by decide)).mono ?_
  rintro e w2 ⟨rfl, rfl⟩
  go_wp2_with fail
  refine bodyPost_ret (v := .agg #[.int .i64 (x % 300 - 100), .string ⟨#[]⟩, .slice none 0 0]) (by simp [results, Try.results36, go_sem, z0, z1, z2]) rfl ?_
  rw [HT.out]
  exact zIA.leaf rfl sz0 HM1.out HC1.out hMl
 ·have HT : Hid (mkT ns (.mk nm rp 3 ks) k = (.mk (ns.getD k 0) ⟨#[]⟩ [], yC ns k)) := zH (by simp [mkT])
  generalize ns.getD k 0 = x at *
  go_wp2_with fail
  refine bodyPost_ret (v := .agg #[.int .i64 x, .string ⟨#[]⟩, .slice none 0 0]) (by simp [results, Try.results36, go_sem, z0, z1, z2]) rfl ?_
  rw [HT.out]
  exact zIA.leaf rfl sz0 HM1.out HC1.out hMl
 ·have HT : Hid (mkT ns (.mk nm rp 4 ks) k = (.mk 0 (abc.extract 0 ((ns.getD k 0) % 9).toNat) [], yC ns k)) := zH (by simp [mkT])
  generalize ns.getD k 0 = x at *
  have m1 := zLR x (show (9 : Int) ≠ 0 by decide)
  have m2 := zLU x (show (0 : Int) < 9 by decide)
  go_wp2_with fail
  refine (zBs x 9 w1 (by decide) (by decide)).mono ?_
  rintro e w2 ⟨rfl, rfl⟩
  go_wp2_with fail
  refine bodyPost_ret (v := .agg #[.int .i64 0, .string ((⟨#[97, 98, 99, 97, 98, 99, 97, 98, 99, 97, 98, 99]⟩ : ByteArray).extract 0 (x % 9).toNat), .slice none 0 0]) (by simp [results, Try.results36, go_sem, z0, z1, z2]) rfl ?_
  rw [HT.out]
  exact zIA.leaf rfl (zLb _) HM1.out HC1.out hMl
theorem zCm : (Try.prog.info? 57).map (fun i => (i.zero, i.size, i.bytes)) = some (some (.agg #[.int .i64 0, .string ByteArray.empty, .slice none 0 0]), 3, 48) := by kernel_rfl
theorem zHz : (Try.prog.info? 28).map (fun i => (i.zero, i.size, i.bytes)) = some (some (.slice none 0 0), 1, 24) := by kernel_rfl
theorem zDT (ns : List Int) (rp : Int) (k : Nat) : (qG ns rp k).1 ≤ 3 := by
 unfold qG
 have h1 := zLR (ns.getD k 0) (show (2 : Int) ≠ 0 by decide)
 have h2 := zLU (ns.getD k 0) (show (0 : Int) < 2 by decide)
 have h3 := zLR (ns.getD k 0) (show (4 : Int) ≠ 0 by decide)
 have h4 := zLU (ns.getD k 0) (show (0 : Int) < 4 by decide)
 split
 ·dsimp only; omega
 ·split
  ·dsimp only; omega
  ·dsimp only; omega
theorem zJ8 {l : List Fl} {K : Int → List Int} : ∀ {ks : List Sh} {o : Nat} (s : Sh) (q : List Sh), IxL l K o ks → ks = s :: q → Ix l K o s ∧ IxL l K (o + s.size) q
 | _, o, s, q, h, rfl => by simpa only [IxL] using h
theorem zHK {c : MC} {l : List Fl} {P ns : List Int} (hP : P.length = l.length) (hPb : ∀ (j : Nat) (hj : j < P.length), -1 ≤ P[j] ∧ P[j] < (j : Int)) (hl : l.length ≤ 1000) (hns : ∀ z ∈ ns, (Lit.int .i64 z).wf = true)
  (nm : ByteArray) (rp : Int) (ks : List Sh) (hksl : ks.length ≤ 1000) (IH : ∀ s ∈ ks, zIu c l P ns s) : zIu c l P ns (.mk nm rp 0 ks) := by
 intro i k w h hix hg
 obtain ⟨it, hit, hz0t, hz1t, hz2t⟩ := info_parts zCm
 obtain ⟨ik, hik, hz0k, hz1k, hz2k⟩ := info_parts zHz
 have HP := zH hP; have HPB := zH hPb; have HIH := zH IH; have HNS := zH hns
 clear hPb IH hns
 simp only [Ix] at hix
 simp only [zR] at hg
 obtain ⟨hix1, hix2, hix3⟩ := hix
 have HGL := zH hg.2.2.2.2.2.2
 clear hg
 obtain ⟨hil, hie⟩ := zLT.1 hix1
 obtain ⟨_, _, f2, _⟩ := yB l i hil
 rw [hie] at f2
 dsimp only at f2
 have hMl := h.rw.lt
 obtain ⟨sb, soff, hsa, hsb, hsc⟩ := h.s.pos (by omega)
 replace f2 := hsc _ _ f2
 rw [← zLV] at f2
 have hR0 : Hid (rest P i (i + 1) = yX (i + 1) ks) := zH (by
  rw [wD (fun j hj => (HPB.out j hj).2), ← wJ]; exact hix2)
 have HIX := zH hix3
 have H := zH h
 have HS := zH hsa
 have HT : Hid (mkT ns (.mk nm rp 0 ks) k = (.mk 0 ⟨#[]⟩ (mkK ns ks (yC ns k)).1, (mkK ns ks (yC ns k)).2)) := zH (by simp [mkT])
 clear h hsc hix1 hie hsa hix2 hix3 hP
 go_enter Try.func36, Try.ntmps36
 go_wp2_with fail
 refine zGl (fun wA hwA => ?_)
 have hA : Below w.heap.size w wA := by rw [hwA]; exact ba (b0 w) _
 have rA : Rw wA w.heap.size #[.int .i64 0, .string ⟨#[]⟩, .slice none 0 0] 57 := by rw [hwA]; exact Rw.new w _ _
 have hzA : wA.heap.size = w.heap.size + 1 := by rw [hwA]; simp
 have hcA : Chg (fun b => b = c.M) w wA := by rw [hwA]; exact (Chg.refl _ _).alloc _
 clear hwA
 have hm0 := H.out.below hA
 refine (zFu wA hm0).mono ?_
 rintro e w1 ⟨rfl, hm1, hc1⟩
 have r1 := rA.chg hc1 (show ¬ (w.heap.size = c.M) by omega)
 have hSb := cb hA f2
 replace f2 := hc1.keep hSb (show ¬ (sb = c.M) by omega)
 have q0 : w1.cell? ⟨c.M, 0, none⟩ = some (.slice (some ⟨sb, soff, none⟩) l.length c.sc) := by rw [hm1.rw.cell, HS.out]; rfl
 have HM1 := zH hm1; have HC1 := zH (hcA.trans hc1 (fun _ _ h => h)); have HR1 := zH r1
 have hsz1 := hc1.size
 rw [hzA] at hsz1
 clear hm1 hc1 r1 rA hA hm0 hSb hcA hzA
 generalize ns.getD k 0 = x at *
 go_wp2_with fail
 have rT := Rw.new w1 #[.int .i64 0, .string ⟨#[]⟩, .slice none 0 0] 57
 have hbT : Below w1.heap.size w1 (w1.alloc (.cells #[.int .i64 0, .string ⟨#[]⟩, .slice none 0 0] 57)) := ba (b0 w1) _
 have HM2 := zH (HM1.out.below hbT)
 have HC2 := zH (HC1.out.alloc (.cells #[.int .i64 0, .string ⟨#[]⟩, .slice none 0 0] 57))
 have HR2 := zH (HR1.out.below hbT)
 have RT := zH rT
 have hMT : c.M < w1.heap.size := by omega
 clear hbT rT q0 f2 HM1 HC1 HR1
 generalize w1.alloc (.cells #[.int .i64 0, .string ⟨#[]⟩, .slice none 0 0] 57) = wS at *
 generalize w1.heap.size = T at *
 go_loopw [7] (fun iv wr => ∃ (j : Nat) (done todo : List Sh) (o : Nat) (aK : Option Addr) (cK : Nat) (xs : List Value), iv = .int .i64 (j : Int) ∧ j ≤ l.length ∧ Hid (ks = done ++ todo) ∧ Hid (rest P i j = yX o todo) ∧ Hid (IxL l (fun v => zK P v) o todo) ∧ Hid (Rw wr T #[.int .i64 0, .string ⟨#[]⟩, .slice aK done.length cK] 57) ∧ Hid (zB9 28 (T + 1) wr aK done.length cK (mkK ns done (yC ns k)).1 xs) ∧ Hid (Mkr wr c l P ns (mkK ns done (yC ns k)).2) ∧ Hid (Chg (fun b => b = c.M) w wr) ∧ Hid (Rw wr w.heap.size #[.int .i64 0, .string ⟨#[]⟩, .slice none 0 0] 57)) (fun iv _ => l.length - (intOf iv).toNat)
 case atStart => exact ⟨i + 1, [], ks, i + 1, none, 0, [], by go_num, hil, zH rfl, hR0, HIX, RT, zH (by simpa [mkK] using zB9.nil _ _ _), HM2, HC2, HR2⟩
 case round =>
  clear HM2 HC2 HR2 RT hR0 HIX
  obtain ⟨j, done, todo, o, aK, cK, xs, rfl, hj, HD, HRE, HIX, RT, HOK, HMR, HCH, HRR⟩ := hrel
  have hszr := HCH.out.size
  have q0 : wr.cell? ⟨c.M, 0, none⟩ = some (.slice (some ⟨sb, soff, none⟩) l.length c.sc) := by rw [HMR.out.rw.cell, HS.out]; rfl
  have q1 : wr.cell? ⟨c.M, 1, none⟩ = some (.slice c.pa l.length c.pc) := HMR.out.rw.cell 1
  have hdl : done.length ≤ 1000 := by have := congrArg List.length HD.out; simp at this; omega
  by_cases hlt : j < l.length
  ·have hjP : j < P.length := by rw [HP.out]; exact hlt
   obtain ⟨pb, poff, hpa, hpb, hpc⟩ := HMR.out.p.pos (by omega)
   rw [hpa] at q1
   have c0 := hpc _ _ (zO P j hjP)
   have hbd := HPB.out j hjP
   by_cases hp : P[j] = (i : Int)
   ·have hry := zAU hjP hp
    rw [HRE.out] at hry
    obtain ⟨s, q, hq, hjo, hre2⟩ := zAK hry
    have hjo' : j = o := by omega
    subst hjo'
    obtain ⟨hix, hixr⟩ := zJ8 s q HIX.out hq
    obtain ⟨nm', rp', kd', ks'⟩ := s
    have hix0 := hix
    simp only [Ix] at hix0
    obtain ⟨hjl, hje⟩ := zLT.1 hix0.1
    have f1 := (yB l j hjl).2.1
    rw [hje] at f1
    dsimp only at f1
    obtain ⟨sb2, soff2, hsa2, hsb2, hsc2⟩ := HMR.out.s.pos (by omega)
    obtain ⟨rfl, rfl⟩ : sb = sb2 ∧ soff = soff2 := by rw [HS.out] at hsa2; cases hsa2; exact ⟨rfl, rfl⟩
    replace f1 := hsc2 _ _ f1
    rw [← zLV] at f1
    have hsg := wM HGL.out (show Sh.mk nm' rp' kd' ks' ∈ ks by rw [HD.out, hq]; simp)
    have HV := zH (HIH.out _ (show Sh.mk nm' rp' kd' ks' ∈ ks by rw [HD.out, hq]; simp))
    have hrp : rp' = 0 ∨ rp' = 1 ∨ rp' = 2 := by have h := hsg; simp only [zR] at h; omega
    have HSG := zH hsg; have HIXS := zH hix; have HIXR := zH hixr; have HRE2 := zH hre2; have HQ := zH hq
    rw [hp] at c0 hbd
    clear hpc hry hix hixr hre2 hix0 hje hsc2 hsa2 hsg hq hp hjo
    rcases hrp with rfl | rfl | rfl
    ·go_upto_region 16 with fail
     go_cut [8] from 63 to 63 (fun v8 wc => ∃ cnt : Nat, v8 = .int .i64 (cnt : Int) ∧ Hid (cnt = 1) ∧ wr = wc)
     case first =>
      go_wp2_with fail
      go_meet
      case rel => exact ⟨1, rfl, zH rfl, rfl⟩
     case rest =>
     obtain ⟨cnt, rfl, hcnt, rfl⟩ := hcut
     have HCNT : Hid (qG ns 0 (mkK ns done (yC ns k)).2 = (cnt, (mkK ns done (yC ns k)).2)) := zH (by simp [qG, hcnt.out])
     have HMX := HMR
     have HCX : Hid (Chg (fun b => b = c.M) wr wr) := zH (Chg.refl _ _)
     obtain ⟨wx, rfl⟩ : ∃ wx : World, wx = wr := ⟨_, rfl⟩
     have HCX2 := zH (HCH.out.trans HCX.out (fun _ _ h => h))
     have hszx := HCX.out.size
     have hTx := RT.out.lt
     have hcb := zDT ns 0 (mkK ns done (yC ns k)).2
     rw [HCNT.out] at hcb
     dsimp only at hcb
     go_wp2_with fail
     clear q0 q1 f1 c0
     go_loopw [9, 10] (fun lv jv wQ => ∃ (g : Nat) (aL : Option Addr) (cL : Nat) (ys : List Value), lv = .slice aL g cL ∧ jv = .int .i64 (g : Int) ∧ g ≤ cnt ∧ Hid (jP 57 wx.heap.size wQ aL g cL (mkX (mkT ns (.mk nm' 0 kd' ks')) g (mkK ns done (yC ns k)).2).1 ys) ∧ Hid (Mkr wQ c l P ns (mkX (mkT ns (.mk nm' 0 kd' ks')) g (mkK ns done (yC ns k)).2).2) ∧ Hid (Chg (fun b => b = c.M) wx wQ)) (fun _ jv _ => cnt - (intOf jv).toNat)
     case atStart => exact ⟨0, none, 0, [], rfl, rfl, zLX _, zH (by simpa [mkX] using jP.nil _ _ _), zH (by simpa [mkX] using HMX.out), zH (Chg.refl _ _)⟩
     case round =>
      obtain ⟨g, aL, cL, ys, rfl, rfl, hg, HOR, HMQ, HCQ⟩ := hrel
      have hszq := HCQ.out.size
      by_cases hgl : g < cnt
      ·have HSN := zH (zCe (mkT ns (.mk nm' 0 kd' ks')) g (mkK ns done (yC ns k)).2)
       go_wp2_with fail
       refine (HV.out j _ wr HMQ.out HIXS.out HSG.out).mono ?_
       rintro e w2 ⟨a2, m2, c2, rfl, ht, hm2, hc2⟩
       generalize hr : mkT ns (.mk nm' 0 kd' ks') (mkX (mkT ns (.mk nm' 0 kd' ks')) g (mkK ns done (yC ns k)).2).2 = r at *
       clear hr
       have hsz2 := hc2.size
       have hor2 := HOR.out.chg hc2 (fun b hb => by omega)
       have HOR2 := zH (hor2.chg ((Chg.refl (fun _ => False) w2).alloc (.cells #[.int .i64 r.1.n, .string r.1.s, .slice a2 m2 c2] 57)) (fun _ _ h => h))
       have hlt2 := HOR.out.lt
       have HT2 := zH (TrG.go (ok' := fun b => wx.heap.size ≤ b ∧ ¬ blk aL b) ((Chg.refl (fun _ => False) w2).alloc (.cells #[.int .i64 r.1.n, .string r.1.s, .slice a2 m2 c2] 57)) (fun b _ hb => ⟨fun h => h, by omega, fun h => by have := hlt2 b h; omega⟩) ht)
       have HOO := zH hor2.own
       have HM2 := zH hm2; have HC2 := zH (HCQ.out.trans hc2 (fun _ _ h => h))
       have hg4 : g ≤ 4 := by omega
       clear hm2 hc2 ht hor2 hlt2
       have tok1 : True := trivial
       go_wp2_with (first
        | (at_builtin; have _t := tok1; clear tok1; clear _t; refine zI (B := wx.heap.size) rfl _ _ _ _ rfl it (.agg #[.int .i64 0, .string ByteArray.empty, .slice none 0 0]) 48 Try.underlying28 hit hz0t hz1t hz2t rfl rfl (HOO.out.alloc _) _ rfl _ _ (zP (e' := 57) Try.underlying28 w2 #[.int .i64 r.1.n, .string r.1.s, .slice a2 m2 c2] 57 1 3 rfl (by simp [Value.oneCell'])) (by simp only [maxLen]; omega) (by omega) (by first | omega | (simp; omega) | simp) ?_; intro a5 cap5 w5 ho5 hc5 hn5); (have HOR5 := zH (jP.push HOR2.out HT2.out ho5 hc5 hn5)); (have HC5 := zH hc5); clear ho5 hc5 hn5
        | fail)
       go_roundw
       case rel =>
        have hmm : Mkr w5 c l P ns r.2 := (HM2.out.below (ba (b0 w2) _)).chg HC5.out (fun b hb h => by omega)
        have hcc : Chg (fun b => b = c.M) wx w5 := (HC2.out.alloc (.cells #[.int .i64 r.1.n, .string r.1.s, .slice a2 m2 c2] 57)).trans ((HC5.out)) (fun b hb h => by omega)
        refine ⟨g + 1, a5, cap5, ys ++ [.int .i64 r.1.n, .string r.1.s, .slice a2 m2 c2], rfl, by go_num, by omega, zH ?_, zH ?_, zH hcc⟩
        ·rw [HSN.out]; exact HOR5.out
        ·rw [HSN.out]; exact hmm
       case measure => simp [intOf]; omega
      ·obtain rfl : g = cnt := by omega
       have hokq := HOK.out.chg (HCX.out.trans HCQ.out (fun _ _ h => h)) (fun b hb => by omega)
       have HOKA := zH (hokq.chg ((Chg.refl (fun _ => False) wr).alloc (.cells #[.slice aL g cL] 28)) (fun _ _ h => h))
       have HKO := zH hokq.own
       have hltK := HOK.out.lt
       have hsl := HOR.out.sl
       have HSL := zH (Sl.go (ok' := fun b => T + 1 ≤ b ∧ ¬ blk aK b) ((Chg.refl (fun _ => False) wr).alloc (.cells #[.slice aL g cL] 28)) (fun b _ hb => ⟨fun h => h, by omega, fun h => by have := hltK b h; omega⟩) hsl.1 (by decide))
       have HRW := zH (zZ.go (ok' := fun b => T + 1 ≤ b ∧ ¬ blk aK b) ((Chg.refl (fun _ => False) wr).alloc (.cells #[.slice aL g cL] 28)) (fun b _ hb => ⟨fun h => h, by omega, fun h => by have := hltK b h; omega⟩) hsl.2)
       have hgl := HOR.out.len
       have HGL := zH hgl
       have hcq2 := HCX.out.trans HCQ.out (fun _ _ h => h)
       have rT := RT.out.chg hcq2 (show ¬ (T = c.M) by omega)
       have rR := HRR.out.chg hcq2 (show ¬ (w.heap.size = c.M) by omega)
       have t2 : wr.cell? ⟨T, 2, none⟩ = some (.slice aK done.length cK) := rT.cell 2
       have tl := rT.lt
       have HRT := zH rT; have HRR2 := zH rR
       have HMQ' := HMQ
       clear hokq hsl rT rR hcq2 hltK hgl
       have tok1 : True := trivial
       go_wp2_with (first
        | (at_builtin; have _t := tok1; clear tok1; clear _t; refine zI (B := T + 1) rfl _ _ _ _ rfl ik (.slice none 0 0) 24 Try.underlying55 hik hz0k hz1k hz2k rfl rfl (HKO.out.alloc _) _ rfl _ _ (zP (e' := 28) Try.underlying55 wr #[.slice aL g cL] 28 1 1 rfl (by simp [Value.oneCell'])) (by simp only [maxLen]; omega) (by omega) (by first | omega | (simp; omega) | simp) ?_; intro a5 cap5 w5 ho5 hc5 hn5); (have HOK5 := zH (zB9.push HOKA.out HGL.out HSL.out HRW.out ho5 hc5 hn5)); (have r5 := (HRT.out.alloc (.cells #[.slice aL g cL] 28)).chg hc5 (show ¬ _ by rintro ⟨_, h, _⟩; omega)); (have t5 : w5.cell? ⟨T, 2, none⟩ = some (.slice aK done.length cK) := r5.cell 2); (have t5f := r5.frozen); (have t5l := r5.lt); (have HR5 := zH r5); (have HC5 := zH hc5); clear ho5 hc5 hn5 r5 t2 tl
        | fail)
       go_roundw
       case rel =>
        have hch : Chg (fun b => b = T) w5 (w5.setCell ⟨T, 2, none⟩ (.slice a5 (done.length + 1) cap5)) := (Chg.refl (fun b => b = T) w5).setCell (p := ⟨T, 2, none⟩) (.inr rfl) _
        have e1 := zA8 ns done [.mk nm' 0 kd' ks'] (yC ns k)
        have e2 : (mkK ns [.mk nm' 0 kd' ks'] (mkK ns done (yC ns k)).2) = ([(mkX (mkT ns (.mk nm' 0 kd' ks')) g (mkK ns done (yC ns k)).2).1], (mkX (mkT ns (.mk nm' 0 kd' ks')) g (mkK ns done (yC ns k)).2).2) := by
         simp only [mkK, Sh.rep, HCNT.out]
        rw [e2] at e1
        refine ⟨j + 1, done ++ [.mk nm' 0 kd' ks'], q, j + (Sh.mk nm' 0 kd' ks').size, a5, cap5, xs ++ [.slice aL g cL], by go_num, by omega, zH (by rw [HD.out, HQ.out]; simp), HRE2, HIXR, zH ?_, zH ?_, zH ?_, zH ?_, zH ?_⟩
        ·rw [zLQ, zLP]; exact HR5.out.set 2 _
        ·rw [e1, zLQ, zLP]
         exact HOK5.out.chg hch (fun b hb => by omega)
        ·rw [e1]
         exact (((HMQ'.out.below (ba (b0 wr) _)).chg HC5.out (fun b hb h => by omega))).chg hch (fun b hb => by omega)
        ·exact ((((HCX2.out.trans HCQ.out (fun _ _ h => h)).alloc (.cells #[.slice aL g cL] 28)).trans HC5.out (fun b hb h => by omega))).trans hch (fun b hb h => by omega)
        ·exact (((HRR2.out.alloc (.cells #[.slice aL g cL] 28)).chg HC5.out (show ¬ _ by rintro ⟨_, h, _⟩; omega))).other (p := ⟨T, 2, none⟩) (by show w.heap.size ≠ T; omega) _
       case measure => simp [intOf]; omega
    ·go_wp2_with fail
     refine (zFu wr HMR.out).mono ?_
     rintro e wx ⟨rfl, hmx, hcx⟩
     have q0' : wx.cell? ⟨c.M, 0, none⟩ = some (.slice (some ⟨sb, soff, none⟩) l.length c.sc) := by rw [hmx.rw.cell, HS.out]; rfl
     have f1' := hcx.keep f1 (show ¬ (sb = c.M) by omega)
     have HMX := zH hmx; have HCX := zH hcx
     have HCNT0 : Hid (qG ns 1 (mkK ns done (yC ns k)).2 = (((ns.getD (mkK ns done (yC ns k)).2 0) % 2).toNat, yC ns (mkK ns done (yC ns k)).2)) := zH (by simp [qG])
     generalize ns.getD (mkK ns done (yC ns k)).2 0 = y at *
     generalize yC ns (mkK ns done (yC ns k)).2 = kx at *
     clear hmx hcx
     go_wp2_with fail
     refine (zBs y 2 wx (by decide) (by decide)).mono ?_
     rintro e w2 ⟨rfl, rfl⟩
     have y1 := zLR y (show (2 : Int) ≠ 0 by decide)
     obtain ⟨cnt, hcnt⟩ : ∃ cnt : Nat, y % 2 = (cnt : Int) := ⟨(y % 2).toNat, by omega⟩
     rw [hcnt]
     have HCNT : Hid (qG ns 1 (mkK ns done (yC ns k)).2 = (cnt, kx)) := zH (by rw [HCNT0.out, hcnt, Int.toNat_natCast])
     clear hcnt y1
     have HCX2 := zH (HCH.out.trans HCX.out (fun _ _ h => h))
     have hszx := HCX.out.size
     have hTx := RT.out.lt
     have hcb := zDT ns 1 (mkK ns done (yC ns k)).2
     rw [HCNT.out] at hcb
     dsimp only at hcb
     go_wp2_with fail
     clear q0 q1 f1 c0 q0' f1'
     go_loopw [9, 10] (fun lv jv wQ => ∃ (g : Nat) (aL : Option Addr) (cL : Nat) (ys : List Value), lv = .slice aL g cL ∧ jv = .int .i64 (g : Int) ∧ g ≤ cnt ∧ Hid (jP 57 wx.heap.size wQ aL g cL (mkX (mkT ns (.mk nm' 1 kd' ks')) g kx).1 ys) ∧ Hid (Mkr wQ c l P ns (mkX (mkT ns (.mk nm' 1 kd' ks')) g kx).2) ∧ Hid (Chg (fun b => b = c.M) wx wQ)) (fun _ jv _ => cnt - (intOf jv).toNat)
     case atStart => exact ⟨0, none, 0, [], rfl, rfl, zLX _, zH (by simpa [mkX] using jP.nil _ _ _), zH (by simpa [mkX] using HMX.out), zH (Chg.refl _ _)⟩
     case round =>
      obtain ⟨g, aL, cL, ys, rfl, rfl, hg, HOR, HMQ, HCQ⟩ := hrel
      have hszq := HCQ.out.size
      by_cases hgl : g < cnt
      ·have HSN := zH (zCe (mkT ns (.mk nm' 1 kd' ks')) g kx)
       go_wp2_with fail
       refine (HV.out j _ wr HMQ.out HIXS.out HSG.out).mono ?_
       rintro e w2 ⟨a2, m2, c2, rfl, ht, hm2, hc2⟩
       generalize hr : mkT ns (.mk nm' 1 kd' ks') (mkX (mkT ns (.mk nm' 1 kd' ks')) g kx).2 = r at *
       clear hr
       have hsz2 := hc2.size
       have hor2 := HOR.out.chg hc2 (fun b hb => by omega)
       have HOR2 := zH (hor2.chg ((Chg.refl (fun _ => False) w2).alloc (.cells #[.int .i64 r.1.n, .string r.1.s, .slice a2 m2 c2] 57)) (fun _ _ h => h))
       have hlt2 := HOR.out.lt
       have HT2 := zH (TrG.go (ok' := fun b => wx.heap.size ≤ b ∧ ¬ blk aL b) ((Chg.refl (fun _ => False) w2).alloc (.cells #[.int .i64 r.1.n, .string r.1.s, .slice a2 m2 c2] 57)) (fun b _ hb => ⟨fun h => h, by omega, fun h => by have := hlt2 b h; omega⟩) ht)
       have HOO := zH hor2.own
       have HM2 := zH hm2; have HC2 := zH (HCQ.out.trans hc2 (fun _ _ h => h))
       have hg4 : g ≤ 4 := by omega
       clear hm2 hc2 ht hor2 hlt2
       have tok1 : True := trivial
       go_wp2_with (first
        | (at_builtin; have _t := tok1; clear tok1; clear _t; refine zI (B := wx.heap.size) rfl _ _ _ _ rfl it (.agg #[.int .i64 0, .string ByteArray.empty, .slice none 0 0]) 48 Try.underlying28 hit hz0t hz1t hz2t rfl rfl (HOO.out.alloc _) _ rfl _ _ (zP (e' := 57) Try.underlying28 w2 #[.int .i64 r.1.n, .string r.1.s, .slice a2 m2 c2] 57 1 3 rfl (by simp [Value.oneCell'])) (by simp only [maxLen]; omega) (by omega) (by first | omega | (simp; omega) | simp) ?_; intro a5 cap5 w5 ho5 hc5 hn5); (have HOR5 := zH (jP.push HOR2.out HT2.out ho5 hc5 hn5)); (have HC5 := zH hc5); clear ho5 hc5 hn5
        | fail)
       go_roundw
       case rel =>
        have hmm : Mkr w5 c l P ns r.2 := (HM2.out.below (ba (b0 w2) _)).chg HC5.out (fun b hb h => by omega)
        have hcc : Chg (fun b => b = c.M) wx w5 := (HC2.out.alloc (.cells #[.int .i64 r.1.n, .string r.1.s, .slice a2 m2 c2] 57)).trans ((HC5.out)) (fun b hb h => by omega)
        refine ⟨g + 1, a5, cap5, ys ++ [.int .i64 r.1.n, .string r.1.s, .slice a2 m2 c2], rfl, by go_num, by omega, zH ?_, zH ?_, zH hcc⟩
        ·rw [HSN.out]; exact HOR5.out
        ·rw [HSN.out]; exact hmm
       case measure => simp [intOf]; omega
      ·obtain rfl : g = cnt := by omega
       have hokq := HOK.out.chg (HCX.out.trans HCQ.out (fun _ _ h => h)) (fun b hb => by omega)
       have HOKA := zH (hokq.chg ((Chg.refl (fun _ => False) wr).alloc (.cells #[.slice aL g cL] 28)) (fun _ _ h => h))
       have HKO := zH hokq.own
       have hltK := HOK.out.lt
       have hsl := HOR.out.sl
       have HSL := zH (Sl.go (ok' := fun b => T + 1 ≤ b ∧ ¬ blk aK b) ((Chg.refl (fun _ => False) wr).alloc (.cells #[.slice aL g cL] 28)) (fun b _ hb => ⟨fun h => h, by omega, fun h => by have := hltK b h; omega⟩) hsl.1 (by decide))
       have HRW := zH (zZ.go (ok' := fun b => T + 1 ≤ b ∧ ¬ blk aK b) ((Chg.refl (fun _ => False) wr).alloc (.cells #[.slice aL g cL] 28)) (fun b _ hb => ⟨fun h => h, by omega, fun h => by have := hltK b h; omega⟩) hsl.2)
       have hgl := HOR.out.len
       have HGL := zH hgl
       have hcq2 := HCX.out.trans HCQ.out (fun _ _ h => h)
       have rT := RT.out.chg hcq2 (show ¬ (T = c.M) by omega)
       have rR := HRR.out.chg hcq2 (show ¬ (w.heap.size = c.M) by omega)
       have t2 : wr.cell? ⟨T, 2, none⟩ = some (.slice aK done.length cK) := rT.cell 2
       have tl := rT.lt
       have HRT := zH rT; have HRR2 := zH rR
       have HMQ' := HMQ
       clear hokq hsl rT rR hcq2 hltK hgl
       have tok1 : True := trivial
       go_wp2_with (first
        | (at_builtin; have _t := tok1; clear tok1; clear _t; refine zI (B := T + 1) rfl _ _ _ _ rfl ik (.slice none 0 0) 24 Try.underlying55 hik hz0k hz1k hz2k rfl rfl (HKO.out.alloc _) _ rfl _ _ (zP (e' := 28) Try.underlying55 wr #[.slice aL g cL] 28 1 1 rfl (by simp [Value.oneCell'])) (by simp only [maxLen]; omega) (by omega) (by first | omega | (simp; omega) | simp) ?_; intro a5 cap5 w5 ho5 hc5 hn5); (have HOK5 := zH (zB9.push HOKA.out HGL.out HSL.out HRW.out ho5 hc5 hn5)); (have r5 := (HRT.out.alloc (.cells #[.slice aL g cL] 28)).chg hc5 (show ¬ _ by rintro ⟨_, h, _⟩; omega)); (have t5 : w5.cell? ⟨T, 2, none⟩ = some (.slice aK done.length cK) := r5.cell 2); (have t5f := r5.frozen); (have t5l := r5.lt); (have HR5 := zH r5); (have HC5 := zH hc5); clear ho5 hc5 hn5 r5 t2 tl
        | fail)
       go_roundw
       case rel =>
        have hch : Chg (fun b => b = T) w5 (w5.setCell ⟨T, 2, none⟩ (.slice a5 (done.length + 1) cap5)) := (Chg.refl (fun b => b = T) w5).setCell (p := ⟨T, 2, none⟩) (.inr rfl) _
        have e1 := zA8 ns done [.mk nm' 1 kd' ks'] (yC ns k)
        have e2 : (mkK ns [.mk nm' 1 kd' ks'] (mkK ns done (yC ns k)).2) = ([(mkX (mkT ns (.mk nm' 1 kd' ks')) g kx).1], (mkX (mkT ns (.mk nm' 1 kd' ks')) g kx).2) := by
         simp only [mkK, Sh.rep, HCNT.out]
        rw [e2] at e1
        refine ⟨j + 1, done ++ [.mk nm' 1 kd' ks'], q, j + (Sh.mk nm' 1 kd' ks').size, a5, cap5, xs ++ [.slice aL g cL], by go_num, by omega, zH (by rw [HD.out, HQ.out]; simp), HRE2, HIXR, zH ?_, zH ?_, zH ?_, zH ?_, zH ?_⟩
        ·rw [zLQ, zLP]; exact HR5.out.set 2 _
        ·rw [e1, zLQ, zLP]
         exact HOK5.out.chg hch (fun b hb => by omega)
        ·rw [e1]
         exact (((HMQ'.out.below (ba (b0 wr) _)).chg HC5.out (fun b hb h => by omega))).chg hch (fun b hb => by omega)
        ·exact ((((HCX2.out.trans HCQ.out (fun _ _ h => h)).alloc (.cells #[.slice aL g cL] 28)).trans HC5.out (fun b hb h => by omega))).trans hch (fun b hb h => by omega)
        ·exact (((HRR2.out.alloc (.cells #[.slice aL g cL] 28)).chg HC5.out (show ¬ _ by rintro ⟨_, h, _⟩; omega))).other (p := ⟨T, 2, none⟩) (by show w.heap.size ≠ T; omega) _
       case measure => simp [intOf]; omega
    ·go_wp2_with fail
     refine (zFu wr HMR.out).mono ?_
     rintro e wx ⟨rfl, hmx, hcx⟩
     have q0' : wx.cell? ⟨c.M, 0, none⟩ = some (.slice (some ⟨sb, soff, none⟩) l.length c.sc) := by rw [hmx.rw.cell, HS.out]; rfl
     have f1' := hcx.keep f1 (show ¬ (sb = c.M) by omega)
     have HMX := zH hmx; have HCX := zH hcx
     have HCNT0 : Hid (qG ns 2 (mkK ns done (yC ns k)).2 = (((ns.getD (mkK ns done (yC ns k)).2 0) % 4).toNat, yC ns (mkK ns done (yC ns k)).2)) := zH (by simp [qG])
     generalize ns.getD (mkK ns done (yC ns k)).2 0 = y at *
     generalize yC ns (mkK ns done (yC ns k)).2 = kx at *
     clear hmx hcx
     go_wp2_with fail
     refine (zBs y 4 wx (by decide) (by decide)).mono ?_
     rintro e w2 ⟨rfl, rfl⟩
     have y1 := zLR y (show (4 : Int) ≠ 0 by decide)
     obtain ⟨cnt, hcnt⟩ : ∃ cnt : Nat, y % 4 = (cnt : Int) := ⟨(y % 4).toNat, by omega⟩
     rw [hcnt]
     have HCNT : Hid (qG ns 2 (mkK ns done (yC ns k)).2 = (cnt, kx)) := zH (by rw [HCNT0.out, hcnt, Int.toNat_natCast])
     clear hcnt y1
     have HCX2 := zH (HCH.out.trans HCX.out (fun _ _ h => h))
     have hszx := HCX.out.size
     have hTx := RT.out.lt
     have hcb := zDT ns 2 (mkK ns done (yC ns k)).2
     rw [HCNT.out] at hcb
     dsimp only at hcb
     go_wp2_with fail
     clear q0 q1 f1 c0 q0' f1'
     go_loopw [9, 10] (fun lv jv wQ => ∃ (g : Nat) (aL : Option Addr) (cL : Nat) (ys : List Value), lv = .slice aL g cL ∧ jv = .int .i64 (g : Int) ∧ g ≤ cnt ∧ Hid (jP 57 wx.heap.size wQ aL g cL (mkX (mkT ns (.mk nm' 2 kd' ks')) g kx).1 ys) ∧ Hid (Mkr wQ c l P ns (mkX (mkT ns (.mk nm' 2 kd' ks')) g kx).2) ∧ Hid (Chg (fun b => b = c.M) wx wQ)) (fun _ jv _ => cnt - (intOf jv).toNat)
     case atStart => exact ⟨0, none, 0, [], rfl, rfl, zLX _, zH (by simpa [mkX] using jP.nil _ _ _), zH (by simpa [mkX] using HMX.out), zH (Chg.refl _ _)⟩
     case round =>
      obtain ⟨g, aL, cL, ys, rfl, rfl, hg, HOR, HMQ, HCQ⟩ := hrel
      have hszq := HCQ.out.size
      by_cases hgl : g < cnt
      ·have HSN := zH (zCe (mkT ns (.mk nm' 2 kd' ks')) g kx)
       go_wp2_with fail
       refine (HV.out j _ wr HMQ.out HIXS.out HSG.out).mono ?_
       rintro e w2 ⟨a2, m2, c2, rfl, ht, hm2, hc2⟩
       generalize hr : mkT ns (.mk nm' 2 kd' ks') (mkX (mkT ns (.mk nm' 2 kd' ks')) g kx).2 = r at *
       clear hr
       have hsz2 := hc2.size
       have hor2 := HOR.out.chg hc2 (fun b hb => by omega)
       have HOR2 := zH (hor2.chg ((Chg.refl (fun _ => False) w2).alloc (.cells #[.int .i64 r.1.n, .string r.1.s, .slice a2 m2 c2] 57)) (fun _ _ h => h))
       have hlt2 := HOR.out.lt
       have HT2 := zH (TrG.go (ok' := fun b => wx.heap.size ≤ b ∧ ¬ blk aL b) ((Chg.refl (fun _ => False) w2).alloc (.cells #[.int .i64 r.1.n, .string r.1.s, .slice a2 m2 c2] 57)) (fun b _ hb => ⟨fun h => h, by omega, fun h => by have := hlt2 b h; omega⟩) ht)
       have HOO := zH hor2.own
       have HM2 := zH hm2; have HC2 := zH (HCQ.out.trans hc2 (fun _ _ h => h))
       have hg4 : g ≤ 4 := by omega
       clear hm2 hc2 ht hor2 hlt2
       have tok1 : True := trivial
       go_wp2_with (first
        | (at_builtin; have _t := tok1; clear tok1; clear _t; refine zI (B := wx.heap.size) rfl _ _ _ _ rfl it (.agg #[.int .i64 0, .string ByteArray.empty, .slice none 0 0]) 48 Try.underlying28 hit hz0t hz1t hz2t rfl rfl (HOO.out.alloc _) _ rfl _ _ (zP (e' := 57) Try.underlying28 w2 #[.int .i64 r.1.n, .string r.1.s, .slice a2 m2 c2] 57 1 3 rfl (by simp [Value.oneCell'])) (by simp only [maxLen]; omega) (by omega) (by first | omega | (simp; omega) | simp) ?_; intro a5 cap5 w5 ho5 hc5 hn5); (have HOR5 := zH (jP.push HOR2.out HT2.out ho5 hc5 hn5)); (have HC5 := zH hc5); clear ho5 hc5 hn5
        | fail)
       go_roundw
       case rel =>
        have hmm : Mkr w5 c l P ns r.2 := (HM2.out.below (ba (b0 w2) _)).chg HC5.out (fun b hb h => by omega)
        have hcc : Chg (fun b => b = c.M) wx w5 := (HC2.out.alloc (.cells #[.int .i64 r.1.n, .string r.1.s, .slice a2 m2 c2] 57)).trans ((HC5.out)) (fun b hb h => by omega)
        refine ⟨g + 1, a5, cap5, ys ++ [.int .i64 r.1.n, .string r.1.s, .slice a2 m2 c2], rfl, by go_num, by omega, zH ?_, zH ?_, zH hcc⟩
        ·rw [HSN.out]; exact HOR5.out
        ·rw [HSN.out]; exact hmm
       case measure => simp [intOf]; omega
      ·obtain rfl : g = cnt := by omega
       have hokq := HOK.out.chg (HCX.out.trans HCQ.out (fun _ _ h => h)) (fun b hb => by omega)
       have HOKA := zH (hokq.chg ((Chg.refl (fun _ => False) wr).alloc (.cells #[.slice aL g cL] 28)) (fun _ _ h => h))
       have HKO := zH hokq.own
       have hltK := HOK.out.lt
       have hsl := HOR.out.sl
       have HSL := zH (Sl.go (ok' := fun b => T + 1 ≤ b ∧ ¬ blk aK b) ((Chg.refl (fun _ => False) wr).alloc (.cells #[.slice aL g cL] 28)) (fun b _ hb => ⟨fun h => h, by omega, fun h => by have := hltK b h; omega⟩) hsl.1 (by decide))
       have HRW := zH (zZ.go (ok' := fun b => T + 1 ≤ b ∧ ¬ blk aK b) ((Chg.refl (fun _ => False) wr).alloc (.cells #[.slice aL g cL] 28)) (fun b _ hb => ⟨fun h => h, by omega, fun h => by have := hltK b h; omega⟩) hsl.2)
       have hgl := HOR.out.len
       have HGL := zH hgl
       have hcq2 := HCX.out.trans HCQ.out (fun _ _ h => h)
       have rT := RT.out.chg hcq2 (show ¬ (T = c.M) by omega)
       have rR := HRR.out.chg hcq2 (show ¬ (w.heap.size = c.M) by omega)
       have t2 : wr.cell? ⟨T, 2, none⟩ = some (.slice aK done.length cK) := rT.cell 2
       have tl := rT.lt
       have HRT := zH rT; have HRR2 := zH rR
       have HMQ' := HMQ
       clear hokq hsl rT rR hcq2 hltK hgl
       have tok1 : True := trivial
       go_wp2_with (first
        | (at_builtin; have _t := tok1; clear tok1; clear _t; refine zI (B := T + 1) rfl _ _ _ _ rfl ik (.slice none 0 0) 24 Try.underlying55 hik hz0k hz1k hz2k rfl rfl (HKO.out.alloc _) _ rfl _ _ (zP (e' := 28) Try.underlying55 wr #[.slice aL g cL] 28 1 1 rfl (by simp [Value.oneCell'])) (by simp only [maxLen]; omega) (by omega) (by first | omega | (simp; omega) | simp) ?_; intro a5 cap5 w5 ho5 hc5 hn5); (have HOK5 := zH (zB9.push HOKA.out HGL.out HSL.out HRW.out ho5 hc5 hn5)); (have r5 := (HRT.out.alloc (.cells #[.slice aL g cL] 28)).chg hc5 (show ¬ _ by rintro ⟨_, h, _⟩; omega)); (have t5 : w5.cell? ⟨T, 2, none⟩ = some (.slice aK done.length cK) := r5.cell 2); (have t5f := r5.frozen); (have t5l := r5.lt); (have HR5 := zH r5); (have HC5 := zH hc5); clear ho5 hc5 hn5 r5 t2 tl
        | fail)
       go_roundw
       case rel =>
        have hch : Chg (fun b => b = T) w5 (w5.setCell ⟨T, 2, none⟩ (.slice a5 (done.length + 1) cap5)) := (Chg.refl (fun b => b = T) w5).setCell (p := ⟨T, 2, none⟩) (.inr rfl) _
        have e1 := zA8 ns done [.mk nm' 2 kd' ks'] (yC ns k)
        have e2 : (mkK ns [.mk nm' 2 kd' ks'] (mkK ns done (yC ns k)).2) = ([(mkX (mkT ns (.mk nm' 2 kd' ks')) g kx).1], (mkX (mkT ns (.mk nm' 2 kd' ks')) g kx).2) := by
         simp only [mkK, Sh.rep, HCNT.out]
        rw [e2] at e1
        refine ⟨j + 1, done ++ [.mk nm' 2 kd' ks'], q, j + (Sh.mk nm' 2 kd' ks').size, a5, cap5, xs ++ [.slice aL g cL], by go_num, by omega, zH (by rw [HD.out, HQ.out]; simp), HRE2, HIXR, zH ?_, zH ?_, zH ?_, zH ?_, zH ?_⟩
        ·rw [zLQ, zLP]; exact HR5.out.set 2 _
        ·rw [e1, zLQ, zLP]
         exact HOK5.out.chg hch (fun b hb => by omega)
        ·rw [e1]
         exact (((HMQ'.out.below (ba (b0 wr) _)).chg HC5.out (fun b hb h => by omega))).chg hch (fun b hb => by omega)
        ·exact ((((HCX2.out.trans HCQ.out (fun _ _ h => h)).alloc (.cells #[.slice aL g cL] 28)).trans HC5.out (fun b hb h => by omega))).trans hch (fun b hb h => by omega)
        ·exact (((HRR2.out.alloc (.cells #[.slice aL g cL] 28)).chg HC5.out (show ¬ _ by rintro ⟨_, h, _⟩; omega))).other (p := ⟨T, 2, none⟩) (by show w.heap.size ≠ T; omega) _
       case measure => simp [intOf]; omega
   ·have hrn := zBK hjP hp
    have hpb : (P[j] == (i : Int)) = false := beq_eq_false_iff_ne.2 hp
    have hpn : (P[j] != (i : Int)) = true := by simp [hp]
    have HRN : Hid (rest P i (j + 1) = yX o todo) := zH (by rw [← hrn]; exact HRE.out)
    generalize P[j] = y at *
    clear hpc hrn hp hpa
    go_wp2_with fail
    go_roundw
    case rel => exact ⟨j + 1, done, todo, o, aK, cK, xs, by go_num, by omega, HD, HRN, HIX, RT, HOK, HMR, HCH, HRR⟩
    case measure => simp [intOf]; omega
  ·obtain rfl : j = l.length := by omega
   have hnil : todo = [] := by
    have h := HRE.out
    rw [zAV (by rw [HP.out]; exact Nat.le_refl _)] at h
    exact zBv h.symm
   subst hnil
   have hdk : ks = done := by rw [HD.out, List.append_nil]
   subst hdk
   have t0 : wr.cell? ⟨T, 0, none⟩ = some (.int .i64 0) := RT.out.cell 0
   have t1 : wr.cell? ⟨T, 1, none⟩ = some (.string ⟨#[]⟩) := RT.out.cell 1
   have t2 : wr.cell? ⟨T, 2, none⟩ = some (.slice aK ks.length cK) := RT.out.cell 2
   have z0 : wr.cell? ⟨w.heap.size, 0, none⟩ = some (.int .i64 0) := HRR.out.cell 0
   have z1 : wr.cell? ⟨w.heap.size, 1, none⟩ = some (.string ⟨#[]⟩) := HRR.out.cell 1
   have z2 : wr.cell? ⟨w.heap.size, 2, none⟩ = some (.slice none 0 0) := HRR.out.cell 2
   have zl := HRR.out.lt
   have zf := HRR.out.frozen
   clear hdl
   go_wp2_with fail
   refine bodyPost_ret (v := .agg #[.int .i64 0, .string ⟨#[]⟩, .slice aK ks.length cK]) (by simp [results, Try.results36, go_sem, z0, z1, z2]) rfl ?_
   rw [HT.out]
   have h2 : Chg (fun b => b = w.heap.size) wr (((wr.setCell ⟨w.heap.size, 0, none⟩ (.int .i64 0)).setCell ⟨w.heap.size, 1, none⟩ (.string ⟨#[]⟩)).setCell ⟨w.heap.size, 2, none⟩ (.slice aK ks.length cK)) := (((Chg.refl (fun b => b = w.heap.size) wr).setCell (p := ⟨w.heap.size, 0, none⟩) (.inr rfl) _).setCell (p := ⟨w.heap.size, 1, none⟩) (.inr rfl) _).setCell (p := ⟨w.heap.size, 2, none⟩) (.inr rfl) _
   have hok := HOK.out.sl
   refine ⟨aK, ks.length, cK, rfl, ?_, HMR.out.chg h2 (fun b hb => by omega), HCH.out.trans h2 (fun b hb h => by omega)⟩
   exact TrG.mk' sz0 (Sl.go h2 (fun b _ hb => ⟨by omega, by omega⟩) hok.1 (by decide)) (yO.go h2 (fun b _ hb => ⟨by omega, by omega⟩) hok.2)
end Go.Proofs.Ytjbkjfefjhbolaa
