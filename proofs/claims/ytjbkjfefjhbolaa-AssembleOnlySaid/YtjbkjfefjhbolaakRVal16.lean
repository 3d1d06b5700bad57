import Derived.Test.YtjbkjfefjhbolaakRefP16
import Derived.Test.YtjbkjfefjhbolaakMkr2
set_option linter.unusedSimpArgs false
set_option linter.unusedVariables false
namespace Go.Proofs.Ytjbkjfefjhbolaa
open Go.RowKit Go.Shr
def lenS : Value → Nat
 | .slice _ n _ => n
 | _ => 0
theorem loopX_stop {f : As → Tr × As} {go : As → Bool} {p : List Tr × As} (h : go p.2 = false) : ∀ (n : Nat), loopX f go n p = p
 | 0 => rfl
 | n + 1 => by simp [loopX, h]
theorem loopX_step {f : As → Tr × As} {go : As → Bool} {p : List Tr × As} (h : go p.2 = true) (n : Nat) : loopX f go (n + 1) p = loopX f go n (p.1 ++ [(f p.2).1], (f p.2).2) := by simp [loopX, h]
theorem first_leaf {l : List Fl} : ∀ (d i n : Nat), n - i = d → (∃ j, i ≤ j ∧ j < n ∧ (flN l j).kind ≠ 0) → ∃ j0, i ≤ j0 ∧ j0 < n ∧ (flN l j0).kind ≠ 0 ∧ ∀ j, i ≤ j → j < j0 → (flN l j).kind = 0
 | 0, i, n, hd, ⟨j, h1, h2, _⟩ => by omega
 | d + 1, i, n, hd, ⟨j, h1, h2, h3⟩ => by
  by_cases hk : (flN l i).kind = 0
  ·have hne : j ≠ i := fun e => h3 (by rw [e]; exact hk)
   obtain ⟨j0, g1, g2, g3, g4⟩ := first_leaf d (i + 1) n (by omega) ⟨j, by omega, h2, h3⟩
   exact ⟨j0, by omega, g2, g3, fun k k1 k2 => by
    by_cases e : k = i
    ·rw [e]; exact hk
    ·exact g4 k (by omega) k2⟩
  ·exact ⟨i, Nat.le_refl _, by omega, hk, fun k k1 k2 => by omega⟩
def RVOk16 (q : RQ) (s : Sh) : Prop := ∀ (i : Nat) (st : As) (w : World), Ix q.b.l (fun v => kidsOf (par q.b.l) v) i s → i + s.size ≤ q.b.l.length → GoodS s → RS q w st → Low q.b (kb q.b.l i) (kb q.b.l (i + s.size)) st →
 Calls Try.prog 33 #[.pointer (some ⟨q.b.bx, 0, none⟩), .int .i64 (i : Int)] w (RVQ q (valX q.b s i st) w)
theorem RVQ.put {q : RQ} {st : As} {p : Tr × As} {w w2 : World} {b : Nat} {a : Option Addr} {c : Nat} (h : RS q w st) (hb : w.heap.size ≤ b) (ht : TrG (fun k => w.heap.size ≤ k ∧ k ≠ b) w2 p.1 [.int .i64 p.1.n, .string p.1.s, .slice a p.1.kids.length c]) (hs : RS q w2 p.2) (hc : Chg q.ch w w2) {u0 u1 u2 : Value} :
  RVQ q p w (.returned (.agg #[.int .i64 p.1.n, .string p.1.s, .slice a p.1.kids.length c])) (((w2.setCell ⟨b, 0, none⟩ u0).setCell ⟨b, 1, none⟩ u1).setCell ⟨b, 2, none⟩ u2) := by
 have h3 : Chg (fun k => k = b) w2 (((w2.setCell ⟨b, 0, none⟩ u0).setCell ⟨b, 1, none⟩ u1).setCell ⟨b, 2, none⟩ u2) := cset3 (Chg.refl (fun k => k = b) w2) rfl
 exact ⟨a, c, rfl, ht.go h3 (fun k _ hk => ⟨hk.2, hk.1⟩), hs.other (h.new hb) (Nat.le_trans h.B0 hb) h3 (fun k hk => hk), ((hc.setCell (p := ⟨b, 0, none⟩) (.inl hb) u0).setCell (p := ⟨b, 1, none⟩) (.inl hb) u1).setCell (p := ⟨b, 2, none⟩) (.inl hb) u2⟩
set_option maxHeartbeats 1000000 in
set_option maxRecDepth 100000 in
theorem rval16_leaf (q : RQ) (hx : RX q) (s : Sh) (hk : s.kind ≠ 0) : RVOk16 q s := by
 intro i st w hix hn hg h hlo
 obtain ⟨nm, rp, kd, ks⟩ := s
 simp only [Sh.kind] at hk
 simp only [GoodS] at hg
 have hks := hg.2.2.2.2.1 hk
 subst hks
 simp only [Ix] at hix
 simp only [Sh.size, shSizes, Nat.add_zero] at hn hlo
 have hi : i < q.b.l.length := by omega
 have hkd : (flN q.b.l i).kind = kd := by unfold flN; rw [List.getD_eq_getElem?_getD, hix.1]; rfl
 have hki : (flN q.b.l i).kind ≠ 0 := by rw [hkd]; exact hk
 have hvx : valX q.b (.mk nm rp kd []) i st = leafX q.b st (kb q.b.l i) := by simp only [valX]; rw [if_pos hk]
 rw [hvx]
 rw [kb_succ, if_neg hki] at hlo
 have HA0 := Lib.hid (hlo (kb q.b.l i) (Nat.le_refl _) (by omega))
 have hsm := hx.small
 obtain ⟨q0, _, _, _, _, _, _, _, _⟩ := h.bx
 obtain ⟨sb, so, hsa, hsok, _, f2⟩ := h.kindAt hi
 rw [hkd] at f2
 have hkb : (kd != 0) = true := by simp [hk]
 have hi1 : (i : Int) < (q.b.l.length : Int) := by omega
 have hnn : q.b.n = q.b.l.length := rfl
 rw [hsa, hnn] at q0
 have HS := Lib.hid h; have HX := Lib.hid hx; have HKI := Lib.hid hki
 clear h hx hsa hnn hlo hix hg hkd hn hki hvx
 go_enter Try.func33, Try.ntmps33
 go_upto_region 1 with fail
 refine gen_wl (fun w1 hw1 => ?_)
 have hb1 : Below w.heap.size w w1 := by rw [hw1]; exact ba (b0 w) _
 have r4 : Rw w1 w.heap.size #[.int .i64 0, .string ByteArray.empty, .slice none 0 0] 57 := by rw [hw1]; exact Rw.new w _ _
 have hz1 : w1.heap.size = w.heap.size + 1 := by rw [hw1]; simp
 clear hw1
 replace q0 := cb hb1 q0; replace f2 := cb hb1 f2
 have HB1 := Lib.hid hb1; have R4 := Lib.hid r4; have HZ1 := Lib.hid hz1
 clear hb1 r4 hz1
 go_wp2_with fail
 refine (rleaf16_v q HX.out w1 (HS.out.below HB1.out) hi HKI.out HA0.out).mono ?_
 generalize hp : leafX q.b st (kb q.b.l i) = p
 have HP := Lib.hid hp
 clear hp
 rintro e w2 ⟨a, c, rfl, ht, hs2, hc2⟩
 have r6 := R4.out.chg hc2 (HS.out.new (Nat.le_refl _))
 have t0 := r6.cell 0; have t1 := r6.cell 1; have t2 := r6.cell 2
 simp only [List.getElem?_toArray, List.getElem?_cons_zero, List.getElem?_cons_succ] at t0 t1 t2
 have tf := r6.frozen; have tl := r6.lt
 have zr := r6.set3 (u0 := .int .i64 p.1.n) (u1 := .string p.1.s) (u2 := .slice a p.1.kids.length c)
 have z0 := zr.cell 0; have z1 := zr.cell 1; have z2 := zr.cell 2
 simp only [List.getElem?_toArray, List.getElem?_cons_zero, List.getElem?_cons_succ] at z0 z1 z2
 have HQ := Lib.hid (RVQ.put (u0 := .int .i64 p.1.n) (u1 := .string p.1.s) (u2 := .slice a p.1.kids.length c) HS.out (Nat.le_refl _) (ht.go (Chg.refl (fun _ => False) w2) (fun k _ hk => ⟨fun h => h, by have := HZ1.out; omega, by have := HZ1.out; omega⟩)) hs2 ((chB16 HB1.out).trans hc2 (fun _ _ h => h)))
 clear q0 f2 r6 zr ht hs2 hc2
 go_wp2_with fail
 refine bodyPost_ret (v := .agg #[.int .i64 p.1.n, .string p.1.s, .slice a p.1.kids.length c]) (by simp [results, Try.results33, go_sem, z0, z1, z2]) rfl ?_
 rw [HP.out]
 exact HQ.out
theorem goodL_pre : ∀ (a b : List Sh), GoodL (a ++ b) → GoodL a
 | [], _, _ => by simp only [GoodL]
 | s :: r, b, h => by
  simp only [List.cons_append, GoodL] at h ⊢
  exact ⟨h.1, goodL_pre r b h.2⟩
theorem ixL_pre {l : List Fl} {K : Int → List Int} : ∀ (a b : List Sh) (o : Nat), IxL l K o (a ++ b) → IxL l K o a
 | [], _, _, _ => by simp only [IxL]
 | s :: r, b, o, h => by
  simp only [List.cons_append, IxL] at h ⊢
  exact ⟨h.1, ixL_pre r b _ h.2⟩
structure LpI (q : RQ) (a b : Nat) (x : List Tr) (su : As) : Prop where
 low : su.bad = false → Low q.b a b su
 few : su.bad = false → x.length ≤ su.A a
 len : x.length ≤ 1000001
theorem repAt {q : RQ} {w : World} {st : As} (h : RS q w st) {j : Nat} (hj : j < q.b.l.length) : ∃ b o, q.ra = some ⟨b, o, none⟩ ∧ q.ok b ∧ w.cell? ⟨b, o + j, none⟩ = some (.int .i64 (lvR q.b.l j : Int)) := by
 obtain ⟨b, o, h1, h2, h3⟩ := RS.intAt h.rr (i := j) (by rw [repI_len]; exact hj)
 rw [repI_get] at h3
 exact ⟨b, o, h1, h2, h3⟩
theorem defAt {q : RQ} {w : World} {st : As} (h : RS q w st) {j : Nat} (hj : j < q.b.l.length) : ∃ b o, q.da = some ⟨b, o, none⟩ ∧ q.ok b ∧ w.cell? ⟨b, o + j, none⟩ = some (.int .i64 (lvD q.b.l j : Int)) := by
 obtain ⟨b, o, h1, h2, h3⟩ := RS.intAt h.dd (i := j) (by rw [defI_len]; exact hj)
 have e : (defI q.b.l)[j]'(by rw [defI_len]; exact hj) = (lvD q.b.l j : Int) := by simp [defI]
 rw [e] at h3
 exact ⟨b, o, h1, h2, h3⟩
theorem RS.row5 {q : RQ} {w w' : World} {st : As} (h : RS q w st) {B : Nat} (hB : q.b.B0 ≤ B) {S : Nat → Prop} (hc : Chg S w w') (hS : ∀ k, S k → B ≤ k) (hn : ∀ k, B ≤ k → ¬ q.ch k) : RS q w' st := by
 have hn' : ∀ k, k < w.heap.size → q.ok k → ¬ S k ∧ q.ok k := fun k _ ho => ⟨fun e => by have := hS _ e; have := ho.1; omega, ho⟩
 exact ⟨h.row.chg hc (fun e => hn _ (hS _ e) (.inl rfl)), h.rA.chg hc (fun e => hn _ (hS _ e) (.inr (.inl rfl))), h.rV.chg hc (fun e => hn _ (hS _ e) (.inr (.inr rfl))), h.ne, h.s.go hc hn' (by decide), h.par.go hc hn' (by decide), h.rr.go hc hn' (by decide), h.dd.go hc hn' (by decide), h.ff.go hc hn' (by decide), h.cols.go hc hn' (by decide), h.hd.go hc hn', Nat.le_trans h.B0 hc.size⟩
set_option maxHeartbeats 3000000 in
set_option maxRecDepth 100000 in
theorem rval16_grp (q : RQ) (hxx : RX q) (nm : ByteArray) (rp : Int) (ks : List Sh) (IH : ∀ s ∈ ks, RVOk16 q s) : RVOk16 q (.mk nm rp 0 ks) := by
 intro i st w hx hn hg h hlo
 obtain ⟨it, hit, hz0t, hz1t, hz2t⟩ := info_parts info_tr
 obtain ⟨ik, hik, hz0k, hz1k, hz2k⟩ := info_parts info_ts
 simp only [GoodS] at hg
 simp only [Ix] at hx
 simp only [Sh.size] at hn hlo
 have hsm := hxx.small
 have hi : i < q.b.l.length := by omega
 have hki : (flN q.b.l i).kind = 0 := by unfold flN; rw [List.getD_eq_getElem?_getD, hx.1]; rfl
 obtain ⟨q0, _, _, _, _, _, _, _, _⟩ := h.bx
 obtain ⟨sb, so, hsa, hsok, _, f2⟩ := h.kindAt hi
 rw [hki] at f2
 have hnn : q.b.n = q.b.l.length := rfl
 rw [hsa, hnn] at q0
 have hi1 : (i : Int) < (q.b.l.length : Int) := by omega
 have hpl := par_length q.b.l
 have e1 : kb q.b.l (i + 1) = kb q.b.l i := kb_grp hki
 have HRS : Hid (rest (par q.b.l) i (i + 1) = offs (i + 1 + shSizes []) ks) := Lib.hid (by
  rw [rest_start (fun j hj => (par_bd q.b.l j hj).2), ← kidsOf_kf]; exact hx.2.1)
 have HLO : Hid (Low q.b (kb q.b.l (i + 1)) (kb q.b.l (i + 1 + shSizes ks)) st) := Lib.hid (by rw [e1]; rwa [show i + 1 + shSizes ks = i + (1 + shSizes ks) by omega])
 have HEND : Hid (valX q.b (.mk nm rp 0 ks) i st = (.mk 0 ByteArray.empty (kidX q.b ks (i + 1) st).1, (kidX q.b ks (i + 1) st).2)) := Lib.hid (by simp [valX])
 have hkl : ks.length ≤ 1000 := by have := kids_sizes ks; omega
 have HQ := Lib.hid h; have HXX := Lib.hid hxx; have HIX := Lib.hid hx.2.2; have HGL := Lib.hid hg.2.2.2.2.2.2; have HIH := Lib.hid IH; have HN := Lib.hid hn; have HNN := Lib.hid hnn; have HSA := Lib.hid hsa
 clear h hx hg IH hki hsa e1 hlo hn hxx
 go_enter Try.func33, Try.ntmps33
 go_upto_region 1 with fail
 refine gen_wl (fun w1 hw1 => ?_)
 have hb1 : Below w.heap.size w w1 := by rw [hw1]; exact ba (b0 w) _
 have r4 : Rw w1 w.heap.size #[.int .i64 0, .string ByteArray.empty, .slice none 0 0] 57 := by rw [hw1]; exact Rw.new w _ _
 have hz1 : w1.heap.size = w.heap.size + 1 := by rw [hw1]; simp
 clear hw1
 replace q0 := cb hb1 q0; replace f2 := cb hb1 f2
 have HZ1 := Lib.hid hz1
 clear hz1
 go_upto_region 4 with fail
 refine gen_wl (fun wT hwT => ?_)
 have hbT : Below w1.heap.size w1 wT := by rw [hwT]; exact ba (b0 w1) _
 have rT : Rw wT w1.heap.size #[.int .i64 0, .string ⟨#[]⟩, .slice none 0 0] 57 := by rw [hwT]; exact Rw.new w1 _ _
 clear hwT
 obtain ⟨T, hT⟩ : ∃ b, b = w1.heap.size := ⟨_, rfl⟩
 rw [← hT] at rT ⊢
 have hTw : w.heap.size < T := by have := HZ1.out; omega
 have HRR := Lib.hid (r4.below hbT); have HRT := Lib.hid rT
 have HS0 := Lib.hid (HQ.out.below (bt hb1 hbT)); have HC0 := Lib.hid (chB16 (q := q) (bt hb1 hbT))
 have HNT := Lib.hid (HQ.out.new (b := T) (by omega)); have HNW := Lib.hid (HQ.out.new (b := w.heap.size) (Nat.le_refl _))
 have HTB := Lib.hid (Nat.le_trans HQ.out.B0 (show w.heap.size ≤ T by omega))
 have hTl : T < wT.heap.size := rT.lt
 clear r4 rT hb1 hbT hT q0 f2 HZ1
 go_wp2_with fail
 go_loopw [6] (fun jv wr => ∃ (done todo : List Sh) (j : Nat) (aK : Option Addr) (cK : Nat) (xs : List Value), jv = .int .i64 (j : Int) ∧ i < j ∧ j ≤ q.b.l.length ∧ done.length ≤ 1000 ∧ Hid (ks = done ++ todo) ∧ Hid (rest (par q.b.l) i j = offs (i + 1 + shSizes done) todo) ∧ Hid (RS q wr (kidX q.b done (i + 1) st).2) ∧ Hid (Chg q.ch w wr) ∧
  Hid (OKid 28 (T + 1) wr aK done.length cK (kidX q.b done (i + 1) st).1 xs) ∧ Hid (Rw wr T #[.int .i64 0, .string ⟨#[]⟩, .slice aK done.length cK] 57) ∧ Hid (Rw wr w.heap.size #[.int .i64 0, .string ByteArray.empty, .slice none 0 0] 57)) (fun jv _ => q.b.l.length - (intOf jv).toNat)
 case atStart => exact ⟨[], ks, i + 1, none, 0, [], by first | rfl | go_num, by omega, by omega, by simp, Lib.hid rfl, HRS, Lib.hid (by simpa [kidX] using HS0.out), HC0, Lib.hid (by simpa [kidX] using OKid.nil _ _ _), HRT, HRR⟩
 case round =>
  clear HRS HS0 HC0 HRT HRR
  obtain ⟨done, todo, j, aK, cK, xs, rfl, hij, hj, hdl0, HD, HR, HS, HT, HOK, RT, RR⟩ := hrel
  obtain ⟨q0, q1, _, _, _, _, _, _, _⟩ := HS.out.bx
  rw [HNN.out] at q0 q1
  by_cases hlt : j < q.b.l.length
  ·have hjp : j < (par q.b.l).length := by omega
   obtain ⟨pb, po, hpa, hpb, c0⟩ := RS.intAt HS.out.par hjp
   rw [hpa] at q1
   by_cases hp : (par q.b.l)[j] = (i : Int)
   ·have hbe : ((par q.b.l)[j] != (i : Int)) = false := by simp [hp]
    have hry := rest_yes hjp hp
    rw [HR.out] at hry
    obtain ⟨s, qq, rfl, hjo, hr2⟩ := offs_cons hry
    have hjo' : j = i + 1 + shSizes done := by omega
    have hdl : done.length < ks.length := by have := congrArg List.length HD.out; simp at this; omega
    obtain ⟨_, hixs, hos⟩ := ixL_at14 ks (i + 1) done.length hdl HIX.out
    have hsk : ks[done.length] = s := by simp [HD.out]
    have htd : ks.take done.length = done := by rw [HD.out]; simp
    rw [htd, hsk, ← hjo'] at hixs
    rw [htd, hsk] at hos
    have hsmm : s ∈ ks := by rw [HD.out]; simp
    have hsg := GoodL_mem HGL.out hsmm
    have HNX : Hid (ks = (done ++ [s]) ++ qq) := Lib.hid (by rw [HD.out]; simp)
    have HR2 : Hid (rest (par q.b.l) i (j + 1) = offs (i + 1 + shSizes (done ++ [s])) qq) := Lib.hid (by
     rw [hr2, shSizes_append]; simp only [shSizes, Nat.add_zero, ← Nat.add_assoc])
    have hssz : shSizes (done ++ [s]) = shSizes done + s.size := by rw [shSizes_append]; simp [shSizes]
    have hkk : shSizes ks = shSizes done + s.size + shSizes qq := by rw [HNX.out, shSizes_append, hssz]
    have m1 := kb_mono q.b.l (show i + 1 ≤ j by omega)
    have m2 := kb_mono q.b.l (show j ≤ j + s.size by omega)
    have m3 := kb_mono q.b.l (show j + s.size ≤ i + 1 + shSizes ks by omega)
    have hon : j + s.size ≤ q.b.l.length := by have := HN.out; omega
    have m4 := kb_mono q.b.l hon
    have hkbl := kb_leaf hsg hixs
    have hec : kb q.b.l j + cntL q.b j s = kb q.b.l (j + s.size) := by unfold cntL; omega
    have hdl1 : done.length + 1 ≤ 1000 := by omega
    have HEC := Lib.hid hec
    have hm0 : kb q.b.l j < q.b.m := by rw [kb_all] at m4; show _ < (leafs q.b.l q.b.l.length).length; omega
    have HSN := Lib.hid (kidX_snoc q.b done s (i + 1) st)
    rw [← hjo'] at HSN
    have hgd : GoodL done := goodL_pre done (s :: qq) (by rw [← HD.out]; exact HGL.out)
    have hixd : IxL q.b.l (fun v => kidsOf (par q.b.l) v) (i + 1) done := ixL_pre done (s :: qq) (i + 1) (by rw [← HD.out]; exact HIX.out)
    have HLX : Hid (Low q.b (kb q.b.l j) (kb q.b.l (j + s.size)) (kidX q.b done (i + 1) st).2) := Lib.hid (by
     have hb := kidX_bd (q := q.b) done (i + 1) st hixd hgd (fun k h1 h2 => HLO.out k h1 (by rw [← hjo'] at h2; omega))
     rw [← hjo'] at hb
     exact hb.lowOut (fun k h1 h2 => HLO.out k (by omega) (by omega)) (.inl (Nat.le_refl _)))
    have HBD : Hid (∀ u, Low q.b (kb q.b.l j) (kb q.b.l (j + s.size)) u → Bd q.b (kb q.b.l j) (kb q.b.l (j + s.size)) u (valX q.b s j u).2) := Lib.hid (fun u hu => valX_bd s j u hixs hsg hu)
    obtain ⟨j0, hj01, hj02, hj03, hj04⟩ := first_leaf _ j (j + s.size) rfl (leaf_in s j hsg hixs)
    have HFI := Lib.hid (And.intro hj01 (And.intro (show j0 < q.b.l.length by omega) (And.intro hj03 hj04)))
    have HV := Lib.hid (HIH.out s hsmm)
    have HIXS := Lib.hid hixs; have HSG := Lib.hid hsg
    have HKBL := Lib.hid hkbl
    obtain ⟨db, dof, hda, _, cd⟩ := defAt HS.out hlt
    have hfs : ∃ f, q.b.l[j]? = some f ∧ f.rep = s.rep := by
     obtain ⟨nm, rp, kd, kk⟩ := s
     simp only [Ix] at hixs
     exact ⟨_, hixs.1, rfl⟩
    have HREP : Hid ((flN q.b.l j).rep = s.rep) := Lib.hid (by
     obtain ⟨f, hf1, hf2⟩ := hfs
     unfold flN; rw [List.getD_eq_getElem?_getD, hf1]; exact hf2)
    obtain ⟨K, hK⟩ : ∃ K, K = (kidX q.b done (i + 1) st) := ⟨_, rfl⟩
    rw [← hK] at HS HOK HLX HSN
    have hlR : lvR q.b.l j ≤ 1001 := by
     unfold lvR
     have h1 := cntR_le q.b.l (Go.Shr.chain (par q.b.l) j); have h3 := chain_len (par q.b.l) j; omega
    generalize (par q.b.l)[j] = pj at *
    subst hp
    clear hry hr2 hjo' hdl hixs hos hsk htd hsmm hsg hpa hpb hjo hssz hkk m1 m2 m3 m4 hkbl hec hgd hixd hj01 hj02 hj03 hj04 hfs hK
    go_upto_region 9 with fail
    go_wp2_with fail
    refine (first16_v q HXX.out wr HS.out HFI.out.1 HFI.out.2.1 HFI.out.2.2.1 HFI.out.2.2.2).mono ?_
    rintro e w2 ⟨rfl, hw2⟩
    subst hw2
    obtain ⟨wr, rfl⟩ : ∃ wr : World, wr = w2 := ⟨_, rfl⟩
    go_wp2_with fail
    refine (cell16_v q HXX.out wr HS.out hm0).mono ?_
    rintro e w3 ⟨rfl, hb3⟩
    have HS3 := Lib.hid (HS.out.below hb3)
    have HT3 := Lib.hid (HT.out.trans (chB16 (q := q) hb3) (fun _ _ h => h))
    have HOK3 := Lib.hid (HOK.out.chg (chF hb3) (fun _ _ h => h))
    have RT3 := Lib.hid (RT.out.below hb3); have RR3 := Lib.hid (RR.out.below hb3)
    have q3 := HS3.out.bx.2.2.2.1
    rw [hda, HNN.out] at q3
    replace cd := cb hb3 cd
    have hj1 : (j : Int) < (q.b.l.length : Int) := by omega
    clear q0 q1 c0 hb3 hda
    obtain ⟨P, hP⟩ : ∃ P, P = lstX q.b j (cntL q.b j s) s.rep (fun u => valX q.b s j u) K.2 := ⟨_, rfl⟩
    rw [← hP] at HSN
    have HP := Lib.hid hP
    clear hP
    go_upto_if 63 with fail
    go_cut [7, 11, 12] from 63 to 117 (fun v7 v11 v12 wc => ∃ (aL : Option Addr) (cL : Nat) (ys : List Value), v7 = .slice aL P.1.length cL ∧ Hid (ORow 57 w3.heap.size wc aL P.1.length cL P.1 ys) ∧ Hid (RS q wc P.2) ∧ Hid (Chg q.ch w3 wc) ∧ P.1.length ≤ 1000001)
    case first =>
     by_cases hcd : (cellX q.b K.2 (kb q.b.l j)).2 < (lvD q.b.l j : Int)
     ·have HLE : Hid (P = ([], noneX q.b (cntL q.b j s) (kb q.b.l j) K.2)) := Lib.hid (by rw [HP.out]; unfold lstX; rw [if_pos hcd])
      have HNO := Lib.hid (rnone16_all q HXX.out s.size s (Nat.le_refl _))
      generalize cellX q.b K.2 (kb q.b.l j) = cx at *
      go_wp2_with fail
      refine (HNO.out j _ w3 HIXS.out hon HSG.out HS3.out HLX.out).mono ?_
      rintro e w4 ⟨rfl, hs4, hc4⟩
      have HS4 := Lib.hid hs4; have HC4 := Lib.hid hc4
      clear hs4 hc4 q3 cd hcd
      go_wp2_with fail
      go_meet
      case rel => rw [HLE.out]; exact ⟨none, 0, [], rfl, Lib.hid (ORow.nil _ _ _), HS4, HC4, by simp⟩
     ·have HLE : Hid (P = loopX (fun u => valX q.b s j u) (goX q.b j s.rep) (lenX q.b (kb q.b.l j) + 1) ([(valX q.b s j K.2).1], (valX q.b s j K.2).2)) := Lib.hid (by rw [HP.out]; unfold lstX; rw [if_neg hcd])
      have hlen := HXX.out.lenX (kb q.b.l j)
      generalize cellX q.b K.2 (kb q.b.l j) = cx at *
      go_wp2_with fail
      refine (HV.out j _ w3 HIXS.out hon HSG.out HS3.out HLX.out).mono ?_
      have hbd := HBD.out _ HLX.out
      have hz3 := HS3.out.new (Nat.le_refl _)
      generalize valX q.b s j K.2 = r at *
      rintro e w4 ⟨a4, m4, rfl, ht4, hs4, hc4⟩
      have hsz4 := hc4.size
      have HT4 := Lib.hid (TrG.go (ok' := fun b => w3.heap.size ≤ b ∧ ¬ blk none b) ((Chg.refl (fun _ => False) w4).alloc (.cells #[.int .i64 r.1.n, .string r.1.s, .slice a4 r.1.kids.length m4] 57)) (fun b _ hb => ⟨fun h => h, hb, fun ⟨_, _, h⟩ => by cases h⟩) ht4)
      have HS4 := Lib.hid hs4; have HC4 := Lib.hid hc4; have HBD4 := Lib.hid hbd
      clear ht4 hs4 hc4 hbd q3 cd hcd
      have tok1 : True := trivial
      go_wp2_with (first
       | (at_builtin; have _t := tok1; clear tok1; clear _t; refine wpList_append (B := w3.heap.size) rfl _ _ _ _ rfl it (.agg #[.int .i64 0, .string ByteArray.empty, .slice none 0 0]) 48 Try.underlying28 hit hz0t hz1t hz2t rfl rfl (Own.nil w3.heap.size (w4.alloc (.cells #[.int .i64 r.1.n, .string r.1.s, .slice a4 r.1.kids.length m4] 57)) 57 3) _ rfl _ _ (src_built (e' := 57) Try.underlying28 w4 #[.int .i64 r.1.n, .string r.1.s, .slice a4 r.1.kids.length m4] 57 1 3 rfl (by simp [Value.oneCell'])) (by simp only [maxLen]; omega) (by omega) (by first | omega | (simp; omega) | simp) ?_; intro a5 cap5 w5 ho5 hc5 hn5); (have HOR5 := Lib.hid (ORow.push (ORow.nil 57 w3.heap.size _) HT4.out ho5 hc5 hn5)); (have HC5 := Lib.hid hc5); clear ho5 hc5 hn5
       | fail)
      have HS5 := Lib.hid ((HS4.out.below (ba (b0 w4) (.cells #[.int .i64 r.1.n, .string r.1.s, .slice a4 r.1.kids.length m4] 57))).go HC5.out (fun k _ h => by obtain ⟨⟨_, _, h⟩, _⟩ := h; cases h))
      have HC5' := Lib.hid ((HC4.out.alloc (.cells #[.int .i64 r.1.n, .string r.1.s, .slice a4 r.1.kids.length m4] 57)).trans HC5.out (fun k _ h => by obtain ⟨⟨_, _, h⟩, _⟩ := h; cases h))
      refine (cell16_v q HXX.out w5 HS5.out hm0).mono ?_
      rintro e w6 ⟨rfl, hb6⟩
      have HOR6 := Lib.hid (HOR5.out.chg (chF hb6) (fun _ _ h => h))
      have HS6 := Lib.hid (HS5.out.below hb6)
      have HC6 := Lib.hid (HC5'.out.trans (chB16 (q := q) hb6) (fun _ _ h => h))
      have HLP : Hid (LpI q (kb q.b.l j) (kb q.b.l (j + s.size)) [r.1] r.2) := Lib.hid ⟨fun hb => HBD4.out.low hb, fun hb => by
       have := (HBD4.out.prog hb _ (Nat.le_refl _) HKBL.out).1
       simp; omega, by simp⟩
      clear hb6 HOR5 HS5 HC5 HC5' HS4 HC4 HT4 HBD4
      go_wp2_with fail
      go_loopw [7, 11] (fun v7 v11 wq => ∃ (n : Nat) (x : List Tr) (su : As) (aL : Option Addr) (cL : Nat) (ys : List Value), v7 = .slice aL x.length cL ∧ v11 = .int .i64 (cellX q.b su (kb q.b.l j)).1 ∧ x.length ≤ 1000001 ∧ Hid (P = loopX (fun u => valX q.b s j u) (goX q.b j s.rep) n (x, su)) ∧ Hid (LpI q (kb q.b.l j) (kb q.b.l (j + s.size)) x su) ∧ Hid (su.bad = false → lenX q.b (kb q.b.l j) ≤ su.A (kb q.b.l j) + n) ∧
       Hid (ORow 57 w3.heap.size wq aL x.length cL x ys) ∧ Hid (RS q wq su) ∧ Hid (Chg q.ch w3 wq)) (fun v7 _ _ => 1000001 - lenS v7)
      case atStart => exact ⟨_, [r.1], r.2, a5, cap5, _, rfl, rfl, by simp, HLE, HLP, Lib.hid (fun _ => by omega), HOR6, HS6, HC6⟩
      case round =>
       clear HLE HLP HOR6 HS6 HC6
       obtain ⟨n, x, su, aL, cL, ys, rfl, rfl, hxl, HE, HLP, HNF, HOR, HSQ, HCQ⟩ := hrel
       obtain ⟨q0, _, q2, _, _, _, _, _, q8⟩ := HSQ.out.bx
       obtain ⟨sb', so', hsa', _, f1, _⟩ := HSQ.out.kindAt hlt
       obtain ⟨rb, ro, hra, _, cr⟩ := repAt HSQ.out hlt
       rw [hsa', HNN.out] at q0
       rw [hra, HNN.out] at q2
       rw [HREP.out] at f1
       clear hra hsa'
       cases hgo : goX q.b j s.rep su with
       | true =>
        have HG := Lib.hid hgo
        obtain ⟨g1, g2, g3⟩ := goX_good hgo
        have hAl : su.A (kb q.b.l j) < lenX q.b (kb q.b.l j) := cellX_neg (by rw [g2]; omega)
        have hn1 := HNF.out g3
        obtain ⟨n', rfl⟩ : ∃ n', n = n' + 1 := ⟨n - 1, by omega⟩
        have HE2 := HE.out
        rw [loopX_step hgo] at HE2
        have HE' := Lib.hid HE2
        have hlow := HLP.out.low g3
        have HLW := Lib.hid hlow
        have hfew := HLP.out.few g3
        have hbd := HBD.out _ hlow
        have hxm : x.length ≤ 1000000 := by omega
        rw [g2]
        rw [g3] at q8
        rw [g1] at f1
        have hNEW := Lib.hid (fun (k : Nat) (hk : w3.heap.size ≤ k) => HS3.out.new hk)
        have hszr := HCQ.out.size
        clear HE2 hlow g1 g2 g3 hgo HG
        go_wp2_with fail
        refine (HV.out j su wr HIXS.out hon HSG.out HSQ.out HLW.out).mono ?_
        generalize valX q.b s j su = r at *
        rintro e w4 ⟨a4, m4, rfl, ht4, hs4, hc4⟩
        have hsz4 := hc4.size
        have hor2 := HOR.out.chg hc4 (fun b hb => hNEW.out b hb)
        have HOR2 := Lib.hid (hor2.chg ((Chg.refl (fun _ => False) w4).alloc (.cells #[.int .i64 r.1.n, .string r.1.s, .slice a4 r.1.kids.length m4] 57)) (fun _ _ h => h))
        have hlt2 := HOR.out.lt
        have HT2 := Lib.hid (TrG.go (ok' := fun b => w3.heap.size ≤ b ∧ ¬ blk aL b) ((Chg.refl (fun _ => False) w4).alloc (.cells #[.int .i64 r.1.n, .string r.1.s, .slice a4 r.1.kids.length m4] 57)) (fun b _ hb => ⟨fun h => h, by omega, fun h => by have := hlt2 b h; omega⟩) ht4)
        have HOO := Lib.hid hor2.own
        have HS4 := Lib.hid (hs4.below (ba (b0 w4) (.cells #[.int .i64 r.1.n, .string r.1.s, .slice a4 r.1.kids.length m4] 57)))
        have HC4 := Lib.hid (((HCQ.out.trans hc4 (fun _ _ h => h))).alloc (.cells #[.int .i64 r.1.n, .string r.1.s, .slice a4 r.1.kids.length m4] 57))
        have HBD4 := Lib.hid hbd
        clear ht4 hs4 hc4 hor2 hlt2 q0 q2 q8 f1 cr hbd
        have tok1 : True := trivial
        go_wp2_with (first
         | (at_builtin; have _t := tok1; clear tok1; clear _t; refine wpList_append (B := w3.heap.size) rfl _ _ _ _ rfl it (.agg #[.int .i64 0, .string ByteArray.empty, .slice none 0 0]) 48 Try.underlying28 hit hz0t hz1t hz2t rfl rfl (HOO.out.alloc _) _ rfl _ _ (src_built (e' := 57) Try.underlying28 w4 #[.int .i64 r.1.n, .string r.1.s, .slice a4 r.1.kids.length m4] 57 1 3 rfl (by simp [Value.oneCell'])) (by simp only [maxLen]; omega) (by omega) (by first | omega | (simp; omega) | simp) ?_; intro a5 cap5 w5 ho5 hc5 hn5); (have HOR5 := Lib.hid (ORow.push HOR2.out HT2.out ho5 hc5 hn5)); (have HC5 := Lib.hid hc5); clear ho5 hc5 hn5
         | fail)
        have HS5 := Lib.hid (HS4.out.row5 HS3.out.B0 HC5.out (fun k h => h.2.1) hNEW.out)
        have HC5' := Lib.hid (HC4.out.trans HC5.out (fun k hk h => by have := h.2.1; omega))
        refine (cell16_v q HXX.out w5 HS5.out hm0).mono ?_
        rintro e w6 ⟨rfl, hb6⟩
        have HOR6 := Lib.hid (HOR5.out.chg (chF hb6) (fun _ _ h => h))
        have HS6 := Lib.hid (HS5.out.below hb6)
        have HC6 := Lib.hid (HC5'.out.trans (chB16 (q := q) hb6) (fun _ _ h => h))
        have HLP2 : Hid (LpI q (kb q.b.l j) (kb q.b.l (j + s.size)) (x ++ [r.1]) r.2) := Lib.hid ⟨fun hb => HBD4.out.low hb, fun hb => by
         have := (HBD4.out.prog hb _ (Nat.le_refl _) HKBL.out).1
         rw [List.length_append, List.length_singleton]; omega, by rw [List.length_append, List.length_singleton]; omega⟩
        have HNF2 : Hid (r.2.bad = false → lenX q.b (kb q.b.l j) ≤ r.2.A (kb q.b.l j) + n') := Lib.hid (fun hb => by
         have := (HBD4.out.prog hb _ (Nat.le_refl _) HKBL.out).1; omega)
        have HLL : Hid ((x ++ [r.1]).length = x.length + 1) := Lib.hid (by simp)
        clear hb6 HOR5 HS5 HC5 HC5' HS4 HC4 HT2 HBD4 HOR2 HOO
        go_wp2_with fail
        go_roundw
        case rel => exact ⟨n', x ++ [r.1], r.2, a5, cap5, _, by rw [HLL.out], rfl, by rw [HLL.out]; omega, HE', HLP2, HNF2, by rw [HLL.out]; exact HOR6, HS6, HC6⟩
        case measure => simp only [lenS]; omega
       | false =>
        have HPE : Hid (P = (x, su)) := Lib.hid (by rw [HE.out]; exact loopX_stop hgo n)
        unfold goX at hgo
        generalize hrr : s.rep = rr at *
        generalize hcc : (cellX q.b su (kb q.b.l j)).1 = cc at *
        by_cases h1 : rr = 2
        ·by_cases h2 : cc = (lvR q.b.l j : Int)
         ·have hbb : su.bad = true := by simpa [h1, h2] using hgo
          rw [hbb] at q8
          clear hgo
          have hrr2 := Lib.hid hrr; have hcc2 := Lib.hid hcc
          clear hrr hcc
          subst h1; subst h2
          go_wp2_with fail
          go_meet
          case rel => rw [HPE.out]; exact ⟨aL, cL, ys, rfl, HOR, HSQ, HCQ, hxl⟩
         ·have hb2 : (cc == (lvR q.b.l j : Int)) = false := beq_eq_false_iff_ne.2 h2
          clear hgo
          have hrr2 := Lib.hid hrr; have hcc2 := Lib.hid hcc
          clear hrr hcc h2
          subst h1
          go_wp2_with fail
          go_meet
          case rel => rw [HPE.out]; exact ⟨aL, cL, ys, rfl, HOR, HSQ, HCQ, hxl⟩
        ·have hb1 : (rr == 2) = false := beq_eq_false_iff_ne.2 h1
         clear hgo
         have hrr2 := Lib.hid hrr; have hcc2 := Lib.hid hcc
         clear hrr hcc h1
         go_wp2_with fail
         go_meet
         case rel => rw [HPE.out]; exact ⟨aL, cL, ys, rfl, HOR, HSQ, HCQ, hxl⟩
    case rest =>
     obtain ⟨aL, cL, ys, rfl, HOR, HSX, HCX, hxl⟩ := hcut
     clear cd q3
     have hszc := HCX.out.size
     have hTc : T < w3.heap.size := RT3.out.lt
     have hokq := HOK3.out.chg HCX.out (fun b hb h => by
      rcases h with h | h | h
      ·exact HQ.out.new (b := b) (by omega) (.inl h)
      ·exact HQ.out.new (b := b) (by omega) (.inr (.inl h))
      ·exact HQ.out.new (b := b) (by omega) (.inr (.inr h)))
     have HOKA := Lib.hid (hokq.chg ((Chg.refl (fun _ => False) wc).alloc (.cells #[.slice aL P.1.length cL] 28)) (fun _ _ h => h))
     have HKO := Lib.hid hokq.own
     have hltK := HOK3.out.lt
     have hsl := HOR.out.sl
     have HSL := Lib.hid (Sl.go (ok' := fun b => T + 1 ≤ b ∧ ¬ blk aK b) ((Chg.refl (fun _ => False) wc).alloc (.cells #[.slice aL P.1.length cL] 28)) (fun b _ hb => ⟨fun h => h, by omega, fun h => by have := hltK b h; omega⟩) hsl.1 (by decide))
     have HRW := Lib.hid (RowG.go (ok' := fun b => T + 1 ≤ b ∧ ¬ blk aK b) ((Chg.refl (fun _ => False) wc).alloc (.cells #[.slice aL P.1.length cL] 28)) (fun b _ hb => ⟨fun h => h, by omega, fun h => by have := hltK b h; omega⟩) hsl.2)
     have rT := RT3.out.chg HCX.out HNT.out
     have rR := RR3.out.chg HCX.out HNW.out
     have t2 : wc.cell? ⟨T, 2, none⟩ = some (.slice aK done.length cK) := rT.cell 2
     have tl := rT.lt
     have HRT := Lib.hid rT; have HRR := Lib.hid rR
     have HSA2 := Lib.hid (HSX.out.below (ba (b0 wc) (.cells #[.slice aL P.1.length cL] 28)))
     have HC7 := Lib.hid ((HT3.out.trans HCX.out (fun _ _ h => h)).alloc (.cells #[.slice aL P.1.length cL] 28))
     have HNEW := Lib.hid (fun (k : Nat) (hk : T + 1 ≤ k) => HQ.out.new (b := k) (by omega))
     clear hokq hsl rT rR hltK
     have tok1 : True := trivial
     go_wp2_with (first
      | (at_builtin; have _t := tok1; clear tok1; clear _t; refine wpList_append (B := T + 1) rfl _ _ _ _ rfl ik (.slice none 0 0) 24 Try.underlying55 hik hz0k hz1k hz2k rfl rfl (HKO.out.alloc _) _ rfl _ _ (src_built (e' := 28) Try.underlying55 wc #[.slice aL P.1.length cL] 28 1 1 rfl (by simp [Value.oneCell'])) (by simp only [maxLen]; omega) (by omega) (by first | omega | (simp; omega) | simp) ?_; intro a5 cap5 w5 ho5 hc5 hn5); (have HOK5 := Lib.hid (OKid.push HOKA.out rfl HSL.out HRW.out ho5 hc5 hn5)); (have r5 := (HRT.out.alloc (.cells #[.slice aL P.1.length cL] 28)).chg hc5 (show ¬ _ by rintro ⟨_, h, _⟩; omega)); (have t5 : w5.cell? ⟨T, 2, none⟩ = some (.slice aK done.length cK) := r5.cell 2); (have t5f := r5.frozen); (have t5l := r5.lt); (have HR5 := Lib.hid r5); (have HC5 := Lib.hid hc5); clear ho5 hc5 hn5 r5 t2 tl
      | fail)
     go_roundw
     case rel =>
      have hch : Chg (fun b => b = T) w5 (w5.setCell ⟨T, 2, none⟩ (.slice a5 (done.length + 1) cap5)) := (Chg.refl (fun b => b = T) w5).setCell (p := ⟨T, 2, none⟩) (.inr rfl) _
      have hl : (done ++ [s]).length = done.length + 1 := by simp
      refine ⟨done ++ [s], qq, j + 1, a5, cap5, xs ++ [.slice aL P.1.length cL], by go_num, by omega, by omega, by rw [hl]; omega, HNX, HR2, Lib.hid ?_, Lib.hid ?_, Lib.hid ?_, Lib.hid ?_, Lib.hid ?_⟩
      ·rw [HSN.out]
       exact (HSA2.out.row5 (B := T + 1) (by have := HTB.out; omega) HC5.out (fun k h => h.2.1) HNEW.out).other HNT.out HTB.out hch (fun k hk => hk)
      ·exact (HC7.out.trans HC5.out (fun k hk h => by have := h.2.1; omega)).trans hch (fun k hk h => by have h' : k = T := h; omega)
      ·rw [HSN.out, hl]
       exact HOK5.out.chg hch (fun b hb h => by have h' : b = T := h; omega)
      ·rw [hl]; exact HR5.out.set 2 _
      ·exact (((HRR.out.alloc (.cells #[.slice aL P.1.length cL] 28)).chg HC5.out (show ¬ _ by rintro ⟨_, h, _⟩; omega))).other (p := ⟨T, 2, none⟩) (by show w.heap.size ≠ T; omega) _
     case measure => simp [intOf]; omega
   ·have hbe : ((par q.b.l)[j] != (i : Int)) = true := by simp [hp]
    have HR2 : Hid (rest (par q.b.l) i (j + 1) = offs (i + 1 + shSizes done) todo) := Lib.hid (by rw [← rest_no hjp hp]; exact HR.out)
    generalize (par q.b.l)[j] = pj at *
    clear hpa hpb
    go_wp2_with fail
    go_roundw
    case rel => exact ⟨done, todo, j + 1, aK, cK, xs, by go_num, by omega, by omega, hdl0, HD, HR2, HS, HT, HOK, RT, RR⟩
    case measure => simp [intOf]; omega
  ·obtain rfl : j = q.b.l.length := by omega
   have hre := rest_end (P := par q.b.l) (v := (i : Int)) (i := q.b.l.length) (by omega)
   rw [HR.out] at hre
   obtain rfl := offs_nil hre
   have hd' : ks = done := by rw [HD.out]; simp
   subst hd'
   have t0 := RT.out.cell 0; have t1 := RT.out.cell 1; have t2 := RT.out.cell 2
   have y0 := RR.out.cell 0; have y1 := RR.out.cell 1; have y2 := RR.out.cell 2; have yf := RR.out.frozen; have yl := RR.out.lt
   simp only [List.getElem?_toArray, List.getElem?_cons_zero, List.getElem?_cons_succ] at t0 t1 t2 y0 y1 y2
   have zr := RR.out.set3 (u0 := .int .i64 0) (u1 := .string ⟨#[]⟩) (u2 := .slice aK ks.length cK)
   have z0 := zr.cell 0; have z1 := zr.cell 1; have z2 := zr.cell 2
   simp only [List.getElem?_toArray, List.getElem?_cons_zero, List.getElem?_cons_succ] at z0 z1 z2
   have hok := HOK.out.sl
   have hkl2 := HOK.out.len
   have HV := Lib.hid (RVQ.put (q := q) (p := (.mk 0 ByteArray.empty (kidX q.b ks (i + 1) st).1, (kidX q.b ks (i + 1) st).2)) (a := aK) (c := cK) (u0 := .int .i64 0) (u1 := .string ⟨#[]⟩) (u2 := .slice aK ks.length cK) HQ.out (Nat.le_refl _) (by
    have h1 : Sl (fun k => w.heap.size ≤ k ∧ k ≠ w.heap.size) wr 1 aK (kidX q.b ks (i + 1) st).1.length cK xs := by rw [← hkl2]; exact hok.1.mono (fun k _ h => by have h' : T + 1 ≤ k := h; omega) (by decide)
    exact TrG.mk' (t := .mk 0 ByteArray.empty (kidX q.b ks (i + 1) st).1) (show ByteArray.empty.size ≤ maxLen by decide) h1 (hok.2.go (Chg.refl (fun _ => False) wr) (fun k _ h => ⟨fun h => h, by omega, by omega⟩))) HS.out HT.out)
   have HKL := Lib.hid hkl2
   clear hre zr hok hkl2 q1
   go_wp2_with fail
   refine bodyPost_ret (v := .agg #[.int .i64 0, .string ⟨#[]⟩, .slice aK ks.length cK]) (by simp [results, Try.results33, go_sem, z0, z1, z2]) rfl ?_
   rw [HEND.out]
   have := HV.out
   dsimp only [Tr.n, Tr.s, Tr.kids] at this
   rw [← HKL.out] at this
   exact this
theorem rval16_all (q : RQ) (hx : RX q) : ∀ (N : Nat) (s : Sh), s.size ≤ N → RVOk16 q s
 | 0, .mk _ _ _ _, h => by simp [Sh.size] at h
 | N + 1, .mk nm rp kd ks, h => by
  by_cases hk : kd = 0
  ·subst hk
   simp only [Sh.size] at h
   exact rval16_grp q hx nm rp ks (fun s hs => rval16_all q hx N s (by have := shSizes_mm hs; omega))
  ·exact rval16_leaf q hx _ hk
end Go.Proofs.Ytjbkjfefjhbolaa
