import Derived.Test.YtjbkjfefjhbolaakRefP16
set_option linter.all false
open Nat renaming le_refl → zLP, le_trans → zLT
open List renaming getD_eq_getElem?_getD → zLQ, length_singleton → zLR, length_append → zLS
namespace Go.Proofs.Ytjbkjfefjhbolaa
open Go.RowKit Go.Shr
def zLD : Value → Nat
 | .slice _ n _ => n
 | _ => 0
theorem zGP {f : As → Tr × As} {go : As → Bool} {p : List Tr × As} (h : go p.2 = false) : ∀ (n : Nat), zAg f go n p = p
 | 0 => rfl
 | n + 1 => by simp [zAg, h]
theorem zGQ {f : As → Tr × As} {go : As → Bool} {p : List Tr × As} (h : go p.2 = true) (n : Nat) : zAg f go (n + 1) p = zAg f go n (p.1 ++ [(f p.2).1], (f p.2).2) := by simp [zAg, h]
theorem zDD {l : List Fl} : ∀ (d i n : Nat), n - i = d → (∃ j, i ≤ j ∧ j < n ∧ (flN l j).kind ≠ 0) → ∃ j0, i ≤ j0 ∧ j0 < n ∧ (flN l j0).kind ≠ 0 ∧ ∀ j, i ≤ j → j < j0 → (flN l j).kind = 0
 | 0, i, n, hd, ⟨j, h1, h2, _⟩ => by omega
 | d + 1, i, n, hd, ⟨j, h1, h2, h3⟩ => by
  by_cases hk : (flN l i).kind = 0
  ·have hne : j ≠ i := fun e => h3 (by rw [e]; exact hk)
   obtain ⟨j0, g1, g2, g3, g4⟩ := zDD d (i + 1) n (by omega) ⟨j, by omega, h2, h3⟩
   exact ⟨j0, by omega, g2, g3, fun k k1 k2 => by
    by_cases e : k = i
    ·rw [e]; exact hk
    ·exact g4 k (by omega) k2⟩
  ·exact ⟨i, zLP _, by omega, hk, fun k k1 k2 => by omega⟩
def zFx (q : RQ) (s : Sh) : Prop := ∀ (i : Nat) (st : As) (w : World), Ix q.b.l (fun v => zK (par q.b.l) v) i s → i + s.size ≤ q.b.l.length → zR s → RS q w st → Low q.b (kb q.b.l i) (kb q.b.l (i + s.size)) st →
 Calls Try.prog 33 #[.pointer (some ⟨q.b.bx, 0, none⟩), .int .i64 (i : Int)] w (RVQ q (qX q.b s i st) w)
theorem RVQ.put {q : RQ} {st : As} {p : Tr × As} {w w2 : World} {b : Nat} {a : Option Addr} {c : Nat} (h : RS q w st) (hb : w.heap.size ≤ b) (ht : TrG (fun k => w.heap.size ≤ k ∧ k ≠ b) w2 p.1 [.int .i64 p.1.n, .string p.1.s, .slice a p.1.kids.length c]) (hs : RS q w2 p.2) (hc : Chg q.ch w w2) {u0 u1 u2 : Value} :
  RVQ q p w (.returned (.agg #[.int .i64 p.1.n, .string p.1.s, .slice a p.1.kids.length c])) (((w2.setCell ⟨b, 0, none⟩ u0).setCell ⟨b, 1, none⟩ u1).setCell ⟨b, 2, none⟩ u2) := by
 have h3 : Chg (fun k => k = b) w2 (((w2.setCell ⟨b, 0, none⟩ u0).setCell ⟨b, 1, none⟩ u1).setCell ⟨b, 2, none⟩ u2) := zD8 (Chg.refl (fun k => k = b) w2) rfl
 exact ⟨a, c, rfl, ht.go h3 (fun k _ hk => ⟨hk.2, hk.1⟩), hs.other (h.new hb) (zLT h.B0 hb) h3 (fun k hk => hk), ((hc.setCell (p := ⟨b, 0, none⟩) (.inl hb) u0).setCell (p := ⟨b, 1, none⟩) (.inl hb) u1).setCell (p := ⟨b, 2, none⟩) (.inl hb) u2⟩
set_option maxHeartbeats 1000000 in
set_option maxRecDepth 100000 in
theorem zFC (q : RQ) (hx : RX q) (s : Sh) (hk : s.kind ≠ 0) : zFx q s := by
 intro i st w hix hn hg h hlo
 obtain ⟨nm, rp, kd, ks⟩ := s
 simp only [Sh.kind] at hk
 simp only [zR] at hg
 have hks := hg.2.2.2.2.1 hk
 subst hks
 simp only [Ix] at hix
 simp only [Sh.size, zC, Nat.add_zero] at hn hlo
 have hi : i < q.b.l.length := by omega
 have hkd : (flN q.b.l i).kind = kd := by unfold flN; rw [zLQ, hix.1]; rfl
 have hki : (flN q.b.l i).kind ≠ 0 := by rw [hkd]; exact hk
 have hvx : qX q.b (.mk nm rp kd []) i st = zA9 q.b st (kb q.b.l i) := by simp only [qX]; rw [if_pos hk]
 rw [hvx]
 rw [jH, if_neg hki] at hlo
 have HA0 := zH (hlo (kb q.b.l i) (zLP _) (by omega))
 have hsm := hx.small
 obtain ⟨q0, _, _, _, _, _, _, _, _⟩ := h.bx
 obtain ⟨sb, so, hsa, hsok, _, f2⟩ := h.kindAt hi
 rw [hkd] at f2
 have hkb : (kd != 0) = true := by simp [hk]
 have hi1 : (i : Int) < (q.b.l.length : Int) := by omega
 have hnn : q.b.n = q.b.l.length := rfl
 rw [hsa, hnn] at q0
 have HS := zH h; have HX := zH hx; have HKI := zH hki
 clear h hx hsa hnn hlo hix hg hkd hn hki hvx
 go_enter Try.func33, Try.ntmps33
 go_upto_region 1 with fail
 refine yE (fun w1 hw1 => ?_)
 have hb1 : Below w.heap.size w w1 := by rw [hw1]; exact ba (b0 w) _
 have r4 : Rw w1 w.heap.size #[.int .i64 0, .string ByteArray.empty, .slice none 0 0] 57 := by rw [hw1]; exact Rw.new w _ _
 have hz1 : w1.heap.size = w.heap.size + 1 := by rw [hw1]; simp
 clear hw1
 replace q0 := cb hb1 q0; replace f2 := cb hb1 f2
 have HB1 := zH hb1; have R4 := zH r4; have HZ1 := zH hz1
 clear hb1 r4 hz1
 go_wp2_with fail
 refine (zHU q HX.out w1 (HS.out.below HB1.out) hi HKI.out HA0.out).mono ?_
 generalize hp : zA9 q.b st (kb q.b.l i) = p
 have HP := zH hp
 clear hp
 rintro e w2 ⟨a, c, rfl, ht, hs2, hc2⟩
 have r6 := R4.out.chg hc2 (HS.out.new (zLP _))
 have t0 := r6.cell 0; have t1 := r6.cell 1; have t2 := r6.cell 2
 simp only [pG] at t0 t1 t2
 have tf := r6.frozen; have tl := r6.lt
 have zr := r6.set3 (u0 := .int .i64 p.1.n) (u1 := .string p.1.s) (u2 := .slice a p.1.kids.length c)
 have z0 := zr.cell 0; have z1 := zr.cell 1; have z2 := zr.cell 2
 simp only [pG] at z0 z1 z2
 have HQ := zH (RVQ.put (u0 := .int .i64 p.1.n) (u1 := .string p.1.s) (u2 := .slice a p.1.kids.length c) HS.out (zLP _) (ht.go (Chg.refl (fun _ => False) w2) (fun k _ hk => ⟨fun h => h, by have := HZ1.out; omega, by have := HZ1.out; omega⟩)) hs2 ((zDE HB1.out).trans hc2 (fun _ _ h => h)))
 clear q0 f2 r6 zr ht hs2 hc2
 go_wp2_with fail
 refine bodyPost_ret (v := .agg #[.int .i64 p.1.n, .string p.1.s, .slice a p.1.kids.length c]) (by simp [results, Try.results33, go_sem, z0, z1, z2]) rfl ?_
 rw [HP.out]
 exact HQ.out
theorem zEJ : ∀ (a b : List Sh), yG (a ++ b) → yG a
 | [], _, _ => by simp only [yG]
 | s :: r, b, h => by
  simp only [List.cons_append, yG] at h ⊢
  exact ⟨h.1, zEJ r b h.2⟩
theorem zHx {l : List Fl} {K : Int → List Int} : ∀ (a b : List Sh) (o : Nat), IxL l K o (a ++ b) → IxL l K o a
 | [], _, _, _ => by simp only [IxL]
 | s :: r, b, o, h => by
  simp only [List.cons_append, IxL] at h ⊢
  exact ⟨h.1, zHx r b _ h.2⟩
structure LpI (q : RQ) (a b : Nat) (x : List Tr) (su : As) : Prop where
 low : su.bad = false → Low q.b a b su
 few : su.bad = false → x.length ≤ su.A a
 len : x.length ≤ 1000001
theorem zLp {q : RQ} {w : World} {st : As} (h : RS q w st) {j : Nat} (hj : j < q.b.l.length) : ∃ b o, q.ra = some ⟨b, o, none⟩ ∧ q.ok b ∧ w.cell? ⟨b, o + j, none⟩ = some (.int .i64 (lvR q.b.l j : Int)) := by
 obtain ⟨b, o, h1, h2, h3⟩ := RS.intAt h.rr (i := j) (by rw [zAW]; exact hj)
 rw [zCa] at h3
 exact ⟨b, o, h1, h2, h3⟩
theorem zLu {q : RQ} {w : World} {st : As} (h : RS q w st) {j : Nat} (hj : j < q.b.l.length) : ∃ b o, q.da = some ⟨b, o, none⟩ ∧ q.ok b ∧ w.cell? ⟨b, o + j, none⟩ = some (.int .i64 (lvD q.b.l j : Int)) := by
 obtain ⟨b, o, h1, h2, h3⟩ := RS.intAt h.dd (i := j) (by rw [zBx]; exact hj)
 have e : (zD4 q.b.l)[j]'(by rw [zBx]; exact hj) = (lvD q.b.l j : Int) := by simp [zD4]
 rw [e] at h3
 exact ⟨b, o, h1, h2, h3⟩
theorem RS.row5 {q : RQ} {w w' : World} {st : As} (h : RS q w st) {B : Nat} (hB : q.b.B0 ≤ B) {S : Nat → Prop} (hc : Chg S w w') (hS : ∀ k, S k → B ≤ k) (hn : ∀ k, B ≤ k → ¬ q.ch k) : RS q w' st := by
 have hn' : ∀ k, k < w.heap.size → q.ok k → ¬ S k ∧ q.ok k := fun k _ ho => ⟨fun e => by have := hS _ e; have := ho.1; omega, ho⟩
 exact ⟨h.row.chg hc (fun e => hn _ (hS _ e) (.inl rfl)), h.rA.chg hc (fun e => hn _ (hS _ e) (.inr (.inl rfl))), h.rV.chg hc (fun e => hn _ (hS _ e) (.inr (.inr rfl))), h.ne, h.s.go hc hn' (by decide), h.par.go hc hn' (by decide), h.rr.go hc hn' (by decide), h.dd.go hc hn' (by decide), h.ff.go hc hn' (by decide), h.cols.go hc hn' (by decide), h.hd.go hc hn', zLT h.B0 hc.size⟩
set_option maxHeartbeats 3000000 in
set_option maxRecDepth 100000 in
theorem zGA (q : RQ) (hxx : RX q) (nm : ByteArray) (rp : Int) (ks : List Sh) (IH : ∀ s ∈ ks, zFx q s) : zFx q (.mk nm rp 0 ks) := by
 intro i st w hx hn hg h hlo
 obtain ⟨it, hit, hz0t, hz1t, hz2t⟩ := info_parts zCm
 obtain ⟨ik, hik, hz0k, hz1k, hz2k⟩ := info_parts zHz
 simp only [zR] at hg
 simp only [Ix] at hx
 simp only [Sh.size] at hn hlo
 have hsm := hxx.small
 have hi : i < q.b.l.length := by omega
 have hki : (flN q.b.l i).kind = 0 := by unfold flN; rw [zLQ, hx.1]; rfl
 obtain ⟨q0, _, _, _, _, _, _, _, _⟩ := h.bx
 obtain ⟨sb, so, hsa, hsok, _, f2⟩ := h.kindAt hi
 rw [hki] at f2
 have hnn : q.b.n = q.b.l.length := rfl
 rw [hsa, hnn] at q0
 have hi1 : (i : Int) < (q.b.l.length : Int) := by omega
 have hpl := zW q.b.l
 have e1 : kb q.b.l (i + 1) = kb q.b.l i := zBl hki
 have HRS : Hid (rest (par q.b.l) i (i + 1) = yX (i + 1 + zC []) ks) := zH (by
  rw [wD (fun j hj => (yI q.b.l j hj).2), ← wJ]; exact hx.2.1)
 have HLO : Hid (Low q.b (kb q.b.l (i + 1)) (kb q.b.l (i + 1 + zC ks)) st) := zH (by rw [e1]; rwa [show i + 1 + zC ks = i + (1 + zC ks) by omega])
 have HEND : Hid (qX q.b (.mk nm rp 0 ks) i st = (.mk 0 ByteArray.empty (zAe q.b ks (i + 1) st).1, (zAe q.b ks (i + 1) st).2)) := zH (by simp [qX])
 have hkl : ks.length ≤ 1000 := by have := qP ks; omega
 have HQ := zH h; have HXX := zH hxx; have HIX := zH hx.2.2; have HGL := zH hg.2.2.2.2.2.2; have HIH := zH IH; have HN := zH hn; have HNN := zH hnn; have HSA := zH hsa
 clear h hx hg IH hki hsa e1 hlo hn hxx
 go_enter Try.func33, Try.ntmps33
 go_upto_region 1 with fail
 refine yE (fun w1 hw1 => ?_)
 have hb1 : Below w.heap.size w w1 := by rw [hw1]; exact ba (b0 w) _
 have r4 : Rw w1 w.heap.size #[.int .i64 0, .string ByteArray.empty, .slice none 0 0] 57 := by rw [hw1]; exact Rw.new w _ _
 have hz1 : w1.heap.size = w.heap.size + 1 := by rw [hw1]; simp
 clear hw1
 replace q0 := cb hb1 q0; replace f2 := cb hb1 f2
 have HZ1 := zH hz1
 clear hz1
 go_upto_region 4 with fail
 refine yE (fun wT hwT => ?_)
 have hbT : Below w1.heap.size w1 wT := by rw [hwT]; exact ba (b0 w1) _
 have rT : Rw wT w1.heap.size #[.int .i64 0, .string ⟨#[]⟩, .slice none 0 0] 57 := by rw [hwT]; exact Rw.new w1 _ _
 clear hwT
 obtain ⟨T, hT⟩ : ∃ b, b = w1.heap.size := ⟨_, rfl⟩
 rw [← hT] at rT ⊢
 have hTw : w.heap.size < T := by have := HZ1.out; omega
 have HRR := zH (r4.below hbT); have HRT := zH rT
 have HS0 := zH (HQ.out.below (bt hb1 hbT)); have HC0 := zH (zDE (q := q) (bt hb1 hbT))
 have HNT := zH (HQ.out.new (b := T) (by omega)); have HNW := zH (HQ.out.new (b := w.heap.size) (zLP _))
 have HTB := zH (zLT HQ.out.B0 (show w.heap.size ≤ T by omega))
 have hTl : T < wT.heap.size := rT.lt
 clear r4 rT hb1 hbT hT q0 f2 HZ1
 go_wp2_with fail
 go_loopw [6] (fun jv wr => ∃ (done todo : List Sh) (j : Nat) (aK : Option Addr) (cK : Nat) (xs : List Value), jv = .int .i64 (j : Int) ∧ i < j ∧ j ≤ q.b.l.length ∧ done.length ≤ 1000 ∧ Hid (ks = done ++ todo) ∧ Hid (rest (par q.b.l) i j = yX (i + 1 + zC done) todo) ∧ Hid (RS q wr (zAe q.b done (i + 1) st).2) ∧ Hid (Chg q.ch w wr) ∧
  Hid (zB9 28 (T + 1) wr aK done.length cK (zAe q.b done (i + 1) st).1 xs) ∧ Hid (Rw wr T #[.int .i64 0, .string ⟨#[]⟩, .slice aK done.length cK] 57) ∧ Hid (Rw wr w.heap.size #[.int .i64 0, .string ByteArray.empty, .slice none 0 0] 57)) (fun jv _ => q.b.l.length - (intOf jv).toNat)
 case atStart => exact ⟨[], ks, i + 1, none, 0, [], by first | rfl | go_num, by omega, by omega, by simp, zH rfl, HRS, zH (by simpa [zAe] using HS0.out), HC0, zH (by simpa [zAe] using zB9.nil _ _ _), HRT, HRR⟩
 case round =>
  clear HRS HS0 HC0 HRT HRR
  obtain ⟨done, todo, j, aK, cK, xs, rfl, hij, hj, hdl0, HD, HR, HS, HT, HOK, RT, RR⟩ := hrel
  obtain ⟨q0, q1, _, _, _, _, _, _, _⟩ := HS.out.bx
  rw [HNN.out] at q0 q1
  by_cases hlt : j < q.b.l.length
  ·have hjp : j < (par q.b.l).length := by omega
   obtain ⟨pb, po, hpa, hpb, c0⟩ := RS.intAt HS.out.par hjp
   rw [hpa] at q1
   by_cases hp : (par q.b.l)[j] = (i : Int)
   ·have hbe : ((par q.b.l)[j] != (i : Int)) = false := by simp [hp]
    have hry := zAU hjp hp
    rw [HR.out] at hry
    obtain ⟨s, qq, rfl, hjo, hr2⟩ := zAK hry
    have hjo' : j = i + 1 + zC done := by omega
    have hdl : done.length < ks.length := by have := congrArg List.length HD.out; simp at this; omega
    obtain ⟨_, hixs, hos⟩ := zAv ks (i + 1) done.length hdl HIX.out
    have hsk : ks[done.length] = s := by simp [HD.out]
    have htd : ks.take done.length = done := by rw [HD.out]; simp
    rw [htd, hsk, ← hjo'] at hixs
    rw [htd, hsk] at hos
    have hsmm : s ∈ ks := by rw [HD.out]; simp
    have hsg := wM HGL.out hsmm
    have HNX : Hid (ks = (done ++ [s]) ++ qq) := zH (by rw [HD.out]; simp)
    have HR2 : Hid (rest (par q.b.l) i (j + 1) = yX (i + 1 + zC (done ++ [s])) qq) := zH (by
     rw [hr2, yA]; simp only [zC, Nat.add_zero, ← Nat.add_assoc])
    have hssz : zC (done ++ [s]) = zC done + s.size := by rw [yA]; simp [zC]
    have hkk : zC ks = zC done + s.size + zC qq := by rw [HNX.out, yA, hssz]
    have m1 := yS q.b.l (show i + 1 ≤ j by omega)
    have m2 := yS q.b.l (show j ≤ j + s.size by omega)
    have m3 := yS q.b.l (show j + s.size ≤ i + 1 + zC ks by omega)
    have hon : j + s.size ≤ q.b.l.length := by have := HN.out; omega
    have m4 := yS q.b.l hon
    have hkbl := zDA hsg hixs
    have hec : kb q.b.l j + wN q.b j s = kb q.b.l (j + s.size) := by unfold wN; omega
    have hdl1 : done.length + 1 ≤ 1000 := by omega
    have HEC := zH hec
    have hm0 : kb q.b.l j < q.b.m := by rw [zBN] at m4; show _ < (zG q.b.l q.b.l.length).length; omega
    have HSN := zH (zEC q.b done s (i + 1) st)
    rw [← hjo'] at HSN
    have hgd : yG done := zEJ done (s :: qq) (by rw [← HD.out]; exact HGL.out)
    have hixd : IxL q.b.l (fun v => zK (par q.b.l) v) (i + 1) done := zHx done (s :: qq) (i + 1) (by rw [← HD.out]; exact HIX.out)
    have HLX : Hid (Low q.b (kb q.b.l j) (kb q.b.l (j + s.size)) (zAe q.b done (i + 1) st).2) := zH (by
     have hb := zDx (q := q.b) done (i + 1) st hixd hgd (fun k h1 h2 => HLO.out k h1 (by rw [← hjo'] at h2; omega))
     rw [← hjo'] at hb
     exact hb.lowOut (fun k h1 h2 => HLO.out k (by omega) (by omega)) (.inl (zLP _)))
    have HBD : Hid (∀ u, Low q.b (kb q.b.l j) (kb q.b.l (j + s.size)) u → Bd q.b (kb q.b.l j) (kb q.b.l (j + s.size)) u (qX q.b s j u).2) := zH (fun u hu => zC2 s j u hixs hsg hu)
    obtain ⟨j0, hj01, hj02, hj03, hj04⟩ := zDD _ j (j + s.size) rfl (zDv s j hsg hixs)
    have HFI := zH (And.intro hj01 (And.intro (show j0 < q.b.l.length by omega) (And.intro hj03 hj04)))
    have HV := zH (HIH.out s hsmm)
    have HIXS := zH hixs; have HSG := zH hsg
    have HKBL := zH hkbl
    obtain ⟨db, dof, hda, _, cd⟩ := zLu HS.out hlt
    have hfs : ∃ f, q.b.l[j]? = some f ∧ f.rep = s.rep := by
     obtain ⟨nm, rp, kd, kk⟩ := s
     simp only [Ix] at hixs
     exact ⟨_, hixs.1, rfl⟩
    have HREP : Hid ((flN q.b.l j).rep = s.rep) := zH (by
     obtain ⟨f, hf1, hf2⟩ := hfs
     unfold flN; rw [zLQ, hf1]; exact hf2)
    obtain ⟨K, hK⟩ : ∃ K, K = (zAe q.b done (i + 1) st) := ⟨_, rfl⟩
    rw [← hK] at HS HOK HLX HSN
    have hlR : lvR q.b.l j ≤ 1001 := by
     unfold lvR
     have h1 := zAE q.b.l (Go.Shr.chain (par q.b.l) j); have h3 := xJ (par q.b.l) j; omega
    generalize (par q.b.l)[j] = pj at *
    subst hp
    clear hry hr2 hjo' hdl hixs hos hsk htd hsmm hsg hpa hpb hjo hssz hkk m1 m2 m3 m4 hkbl hec hgd hixd hj01 hj02 hj03 hj04 hfs hK
    go_upto_region 9 with fail
    go_wp2_with fail
    refine (zIe q HXX.out wr HS.out HFI.out.1 HFI.out.2.1 HFI.out.2.2.1 HFI.out.2.2.2).mono ?_
    rintro e w2 ⟨rfl, hw2⟩
    subst hw2
    obtain ⟨wr, rfl⟩ : ∃ wr : World, wr = w2 := ⟨_, rfl⟩
    go_wp2_with fail
    refine (zBy q HXX.out wr HS.out hm0).mono ?_
    rintro e w3 ⟨rfl, hb3⟩
    have HS3 := zH (HS.out.below hb3)
    have HT3 := zH (HT.out.trans (zDE (q := q) hb3) (fun _ _ h => h))
    have HOK3 := zH (HOK.out.chg (chF hb3) (fun _ _ h => h))
    have RT3 := zH (RT.out.below hb3); have RR3 := zH (RR.out.below hb3)
    have q3 := HS3.out.bx.2.2.2.1
    rw [hda, HNN.out] at q3
    replace cd := cb hb3 cd
    have hj1 : (j : Int) < (q.b.l.length : Int) := by omega
    clear q0 q1 c0 hb3 hda
    obtain ⟨P, hP⟩ : ∃ P, P = zBZ q.b j (wN q.b j s) s.rep (fun u => qX q.b s j u) K.2 := ⟨_, rfl⟩
    rw [← hP] at HSN
    have HP := zH hP
    clear hP
    go_upto_if 63 with fail
    go_cut [7, 11, 12] from 63 to 117 (fun v7 v11 v12 wc => ∃ (aL : Option Addr) (cL : Nat) (ys : List Value), v7 = .slice aL P.1.length cL ∧ Hid (jP 57 w3.heap.size wc aL P.1.length cL P.1 ys) ∧ Hid (RS q wc P.2) ∧ Hid (Chg q.ch w3 wc) ∧ P.1.length ≤ 1000001)
    case first =>
     by_cases hcd : (yV q.b K.2 (kb q.b.l j)).2 < (lvD q.b.l j : Int)
     ·have HLE : Hid (P = ([], jD q.b (wN q.b j s) (kb q.b.l j) K.2)) := zH (by rw [HP.out]; unfold zBZ; rw [if_pos hcd])
      have HNO := zH (zCI q HXX.out s.size s (zLP _))
      generalize yV q.b K.2 (kb q.b.l j) = cx at *
      go_wp2_with fail
      refine (HNO.out j _ w3 HIXS.out hon HSG.out HS3.out HLX.out).mono ?_
      rintro e w4 ⟨rfl, hs4, hc4⟩
      have HS4 := zH hs4; have HC4 := zH hc4
      clear hs4 hc4 q3 cd hcd
      go_wp2_with fail
      go_meet
      case rel => rw [HLE.out]; exact ⟨none, 0, [], rfl, zH (jP.nil _ _ _), HS4, HC4, by simp⟩
     ·have HLE : Hid (P = zAg (fun u => qX q.b s j u) (goX q.b j s.rep) (lenX q.b (kb q.b.l j) + 1) ([(qX q.b s j K.2).1], (qX q.b s j K.2).2)) := zH (by rw [HP.out]; unfold zBZ; rw [if_neg hcd])
      have hlen := HXX.out.lenX (kb q.b.l j)
      generalize yV q.b K.2 (kb q.b.l j) = cx at *
      go_wp2_with fail
      refine (HV.out j _ w3 HIXS.out hon HSG.out HS3.out HLX.out).mono ?_
      have hbd := HBD.out _ HLX.out
      have hz3 := HS3.out.new (zLP _)
      generalize qX q.b s j K.2 = r at *
      rintro e w4 ⟨a4, m4, rfl, ht4, hs4, hc4⟩
      have hsz4 := hc4.size
      have HT4 := zH (TrG.go (ok' := fun b => w3.heap.size ≤ b ∧ ¬ blk none b) ((Chg.refl (fun _ => False) w4).alloc (.cells #[.int .i64 r.1.n, .string r.1.s, .slice a4 r.1.kids.length m4] 57)) (fun b _ hb => ⟨fun h => h, hb, fun ⟨_, _, h⟩ => by cases h⟩) ht4)
      have HS4 := zH hs4; have HC4 := zH hc4; have HBD4 := zH hbd
      clear ht4 hs4 hc4 hbd q3 cd hcd
      have tok1 : True := trivial
      go_wp2_with (first
       | (at_builtin; have _t := tok1; clear tok1; clear _t; refine zI (B := w3.heap.size) rfl _ _ _ _ rfl it (.agg #[.int .i64 0, .string ByteArray.empty, .slice none 0 0]) 48 Try.underlying28 hit hz0t hz1t hz2t rfl rfl (Own.nil w3.heap.size (w4.alloc (.cells #[.int .i64 r.1.n, .string r.1.s, .slice a4 r.1.kids.length m4] 57)) 57 3) _ rfl _ _ (zP (e' := 57) Try.underlying28 w4 #[.int .i64 r.1.n, .string r.1.s, .slice a4 r.1.kids.length m4] 57 1 3 rfl (by simp [Value.oneCell'])) (by simp only [maxLen]; omega) (by omega) (by first | omega | (simp; omega) | simp) ?_; intro a5 cap5 w5 ho5 hc5 hn5); (have HOR5 := zH (jP.push (jP.nil 57 w3.heap.size _) HT4.out ho5 hc5 hn5)); (have HC5 := zH hc5); clear ho5 hc5 hn5
       | fail)
      have HS5 := zH ((HS4.out.below (ba (b0 w4) (.cells #[.int .i64 r.1.n, .string r.1.s, .slice a4 r.1.kids.length m4] 57))).go HC5.out (fun k _ h => by obtain ⟨⟨_, _, h⟩, _⟩ := h; cases h))
      have HC5' := zH ((HC4.out.alloc (.cells #[.int .i64 r.1.n, .string r.1.s, .slice a4 r.1.kids.length m4] 57)).trans HC5.out (fun k _ h => by obtain ⟨⟨_, _, h⟩, _⟩ := h; cases h))
      refine (zBy q HXX.out w5 HS5.out hm0).mono ?_
      rintro e w6 ⟨rfl, hb6⟩
      have HOR6 := zH (HOR5.out.chg (chF hb6) (fun _ _ h => h))
      have HS6 := zH (HS5.out.below hb6)
      have HC6 := zH (HC5'.out.trans (zDE (q := q) hb6) (fun _ _ h => h))
      have HLP : Hid (LpI q (kb q.b.l j) (kb q.b.l (j + s.size)) [r.1] r.2) := zH ⟨fun hb => HBD4.out.low hb, fun hb => by
       have := (HBD4.out.prog hb _ (zLP _) HKBL.out).1
       simp; omega, by simp⟩
      clear hb6 HOR5 HS5 HC5 HC5' HS4 HC4 HT4 HBD4
      go_wp2_with fail
      go_loopw [7, 11] (fun v7 v11 wq => ∃ (n : Nat) (x : List Tr) (su : As) (aL : Option Addr) (cL : Nat) (ys : List Value), v7 = .slice aL x.length cL ∧ v11 = .int .i64 (yV q.b su (kb q.b.l j)).1 ∧ x.length ≤ 1000001 ∧ Hid (P = zAg (fun u => qX q.b s j u) (goX q.b j s.rep) n (x, su)) ∧ Hid (LpI q (kb q.b.l j) (kb q.b.l (j + s.size)) x su) ∧ Hid (su.bad = false → lenX q.b (kb q.b.l j) ≤ su.A (kb q.b.l j) + n) ∧
       Hid (jP 57 w3.heap.size wq aL x.length cL x ys) ∧ Hid (RS q wq su) ∧ Hid (Chg q.ch w3 wq)) (fun v7 _ _ => 1000001 - zLD v7)
      case atStart => exact ⟨_, [r.1], r.2, a5, cap5, _, rfl, rfl, by simp, HLE, HLP, zH (fun _ => by omega), HOR6, HS6, HC6⟩
      case round =>
       clear HLE HLP HOR6 HS6 HC6
       obtain ⟨n, x, su, aL, cL, ys, rfl, rfl, hxl, HE, HLP, HNF, HOR, HSQ, HCQ⟩ := hrel
       obtain ⟨q0, _, q2, _, _, _, _, _, q8⟩ := HSQ.out.bx
       obtain ⟨sb', so', hsa', _, f1, _⟩ := HSQ.out.kindAt hlt
       obtain ⟨rb, ro, hra, _, cr⟩ := zLp HSQ.out hlt
       rw [hsa', HNN.out] at q0
       rw [hra, HNN.out] at q2
       rw [HREP.out] at f1
       clear hra hsa'
       cases hgo : goX q.b j s.rep su with
       | true =>
        have HG := zH hgo
        obtain ⟨g1, g2, g3⟩ := zGf hgo
        have hAl : su.A (kb q.b.l j) < lenX q.b (kb q.b.l j) := zCH (by rw [g2]; omega)
        have hn1 := HNF.out g3
        obtain ⟨n', rfl⟩ : ∃ n', n = n' + 1 := ⟨n - 1, by omega⟩
        have HE2 := HE.out
        rw [zGQ hgo] at HE2
        have HE' := zH HE2
        have hlow := HLP.out.low g3
        have HLW := zH hlow
        have hfew := HLP.out.few g3
        have hbd := HBD.out _ hlow
        have hxm : x.length ≤ 1000000 := by omega
        rw [g2]
        rw [g3] at q8
        rw [g1] at f1
        have hNEW := zH (fun (k : Nat) (hk : w3.heap.size ≤ k) => HS3.out.new hk)
        have hszr := HCQ.out.size
        clear HE2 hlow g1 g2 g3 hgo HG
        go_wp2_with fail
        refine (HV.out j su wr HIXS.out hon HSG.out HSQ.out HLW.out).mono ?_
        generalize qX q.b s j su = r at *
        rintro e w4 ⟨a4, m4, rfl, ht4, hs4, hc4⟩
        have hsz4 := hc4.size
        have hor2 := HOR.out.chg hc4 (fun b hb => hNEW.out b hb)
        have HOR2 := zH (hor2.chg ((Chg.refl (fun _ => False) w4).alloc (.cells #[.int .i64 r.1.n, .string r.1.s, .slice a4 r.1.kids.length m4] 57)) (fun _ _ h => h))
        have hlt2 := HOR.out.lt
        have HT2 := zH (TrG.go (ok' := fun b => w3.heap.size ≤ b ∧ ¬ blk aL b) ((Chg.refl (fun _ => False) w4).alloc (.cells #[.int .i64 r.1.n, .string r.1.s, .slice a4 r.1.kids.length m4] 57)) (fun b _ hb => ⟨fun h => h, by omega, fun h => by have := hlt2 b h; omega⟩) ht4)
        have HOO := zH hor2.own
        have HS4 := zH (hs4.below (ba (b0 w4) (.cells #[.int .i64 r.1.n, .string r.1.s, .slice a4 r.1.kids.length m4] 57)))
        have HC4 := zH (((HCQ.out.trans hc4 (fun _ _ h => h))).alloc (.cells #[.int .i64 r.1.n, .string r.1.s, .slice a4 r.1.kids.length m4] 57))
        have HBD4 := zH hbd
        clear ht4 hs4 hc4 hor2 hlt2 q0 q2 q8 f1 cr hbd
        have tok1 : True := trivial
        go_wp2_with (first
         | (at_builtin; have _t := tok1; clear tok1; clear _t; refine zI (B := w3.heap.size) rfl _ _ _ _ rfl it (.agg #[.int .i64 0, .string ByteArray.empty, .slice none 0 0]) 48 Try.underlying28 hit hz0t hz1t hz2t rfl rfl (HOO.out.alloc _) _ rfl _ _ (zP (e' := 57) Try.underlying28 w4 #[.int .i64 r.1.n, .string r.1.s, .slice a4 r.1.kids.length m4] 57 1 3 rfl (by simp [Value.oneCell'])) (by simp only [maxLen]; omega) (by omega) (by first | omega | (simp; omega) | simp) ?_; intro a5 cap5 w5 ho5 hc5 hn5); (have HOR5 := zH (jP.push HOR2.out HT2.out ho5 hc5 hn5)); (have HC5 := zH hc5); clear ho5 hc5 hn5
         | fail)
        have HS5 := zH (HS4.out.row5 HS3.out.B0 HC5.out (fun k h => h.2.1) hNEW.out)
        have HC5' := zH (HC4.out.trans HC5.out (fun k hk h => by have := h.2.1; omega))
        refine (zBy q HXX.out w5 HS5.out hm0).mono ?_
        rintro e w6 ⟨rfl, hb6⟩
        have HOR6 := zH (HOR5.out.chg (chF hb6) (fun _ _ h => h))
        have HS6 := zH (HS5.out.below hb6)
        have HC6 := zH (HC5'.out.trans (zDE (q := q) hb6) (fun _ _ h => h))
        have HLP2 : Hid (LpI q (kb q.b.l j) (kb q.b.l (j + s.size)) (x ++ [r.1]) r.2) := zH ⟨fun hb => HBD4.out.low hb, fun hb => by
         have := (HBD4.out.prog hb _ (zLP _) HKBL.out).1
         rw [zLS, zLR]; omega, by rw [zLS, zLR]; omega⟩
        have HNF2 : Hid (r.2.bad = false → lenX q.b (kb q.b.l j) ≤ r.2.A (kb q.b.l j) + n') := zH (fun hb => by
         have := (HBD4.out.prog hb _ (zLP _) HKBL.out).1; omega)
        have HLL : Hid ((x ++ [r.1]).length = x.length + 1) := zH (by simp)
        clear hb6 HOR5 HS5 HC5 HC5' HS4 HC4 HT2 HBD4 HOR2 HOO
        go_wp2_with fail
        go_roundw
        case rel => exact ⟨n', x ++ [r.1], r.2, a5, cap5, _, by rw [HLL.out], rfl, by rw [HLL.out]; omega, HE', HLP2, HNF2, by rw [HLL.out]; exact HOR6, HS6, HC6⟩
        case measure => simp only [zLD]; omega
       | false =>
        have HPE : Hid (P = (x, su)) := zH (by rw [HE.out]; exact zGP hgo n)
        unfold goX at hgo
        generalize hrr : s.rep = rr at *
        generalize hcc : (yV q.b su (kb q.b.l j)).1 = cc at *
        by_cases h1 : rr = 2
        ·by_cases h2 : cc = (lvR q.b.l j : Int)
         ·have hbb : su.bad = true := by simpa [h1, h2] using hgo
          rw [hbb] at q8
          clear hgo
          have hrr2 := zH hrr; have hcc2 := zH hcc
          clear hrr hcc
          subst h1; subst h2
          go_wp2_with fail
          go_meet
          case rel => rw [HPE.out]; exact ⟨aL, cL, ys, rfl, HOR, HSQ, HCQ, hxl⟩
         ·have hb2 : (cc == (lvR q.b.l j : Int)) = false := beq_eq_false_iff_ne.2 h2
          clear hgo
          have hrr2 := zH hrr; have hcc2 := zH hcc
          clear hrr hcc h2
          subst h1
          go_wp2_with fail
          go_meet
          case rel => rw [HPE.out]; exact ⟨aL, cL, ys, rfl, HOR, HSQ, HCQ, hxl⟩
        ·have hb1 : (rr == 2) = false := beq_eq_false_iff_ne.2 h1
         clear hgo
         have hrr2 := zH hrr; have hcc2 := zH hcc
         clear hrr hcc h1
         go_wp2_with fail
         go_meet
         case rel => rw [HPE.out]; exact ⟨aL, cL, ys, rfl, HOR, HSQ, HCQ, hxl⟩
    case rest =>
     obtain ⟨aL, cL, ys, rfl, HOR, HSX, HCX, hxl⟩ := hcut
     clear cd q3
     have hszc := HCX.out.size
     have hTc : T < w3.heap.size := RT3.out.lt
     have hokq := HOK3.out.chg HCX.out (fun b hb h => by
      rcases h with h | h | h
      ·exact HQ.out.new (b := b) (by omega) (.inl h)
      ·exact HQ.out.new (b := b) (by omega) (.inr (.inl h))
      ·exact HQ.out.new (b := b) (by omega) (.inr (.inr h)))
     have HOKA := zH (hokq.chg ((Chg.refl (fun _ => False) wc).alloc (.cells #[.slice aL P.1.length cL] 28)) (fun _ _ h => h))
     have HKO := zH hokq.own
     have hltK := HOK3.out.lt
     have hsl := HOR.out.sl
     have HSL := zH (Sl.go (ok' := fun b => T + 1 ≤ b ∧ ¬ blk aK b) ((Chg.refl (fun _ => False) wc).alloc (.cells #[.slice aL P.1.length cL] 28)) (fun b _ hb => ⟨fun h => h, by omega, fun h => by have := hltK b h; omega⟩) hsl.1 (by decide))
     have HRW := zH (zZ.go (ok' := fun b => T + 1 ≤ b ∧ ¬ blk aK b) ((Chg.refl (fun _ => False) wc).alloc (.cells #[.slice aL P.1.length cL] 28)) (fun b _ hb => ⟨fun h => h, by omega, fun h => by have := hltK b h; omega⟩) hsl.2)
     have rT := RT3.out.chg HCX.out HNT.out
     have rR := RR3.out.chg HCX.out HNW.out
     have t2 : wc.cell? ⟨T, 2, none⟩ = some (.slice aK done.length cK) := rT.cell 2
     have tl := rT.lt
     have HRT := zH rT; have HRR := zH rR
     have HSA2 := zH (HSX.out.below (ba (b0 wc) (.cells #[.slice aL P.1.length cL] 28)))
     have HC7 := zH ((HT3.out.trans HCX.out (fun _ _ h => h)).alloc (.cells #[.slice aL P.1.length cL] 28))
     have HNEW := zH (fun (k : Nat) (hk : T + 1 ≤ k) => HQ.out.new (b := k) (by omega))
     clear hokq hsl rT rR hltK
     have tok1 : True := trivial
     go_wp2_with (first
      | (at_builtin; have _t := tok1; clear tok1; clear _t; refine zI (B := T + 1) rfl _ _ _ _ rfl ik (.slice none 0 0) 24 Try.underlying55 hik hz0k hz1k hz2k rfl rfl (HKO.out.alloc _) _ rfl _ _ (zP (e' := 28) Try.underlying55 wc #[.slice aL P.1.length cL] 28 1 1 rfl (by simp [Value.oneCell'])) (by simp only [maxLen]; omega) (by omega) (by first | omega | (simp; omega) | simp) ?_; intro a5 cap5 w5 ho5 hc5 hn5); (have HOK5 := zH (zB9.push HOKA.out rfl HSL.out HRW.out ho5 hc5 hn5)); (have r5 := (HRT.out.alloc (.cells #[.slice aL P.1.length cL] 28)).chg hc5 (show ¬ _ by rintro ⟨_, h, _⟩; omega)); (have t5 : w5.cell? ⟨T, 2, none⟩ = some (.slice aK done.length cK) := r5.cell 2); (have t5f := r5.frozen); (have t5l := r5.lt); (have HR5 := zH r5); (have HC5 := zH hc5); clear ho5 hc5 hn5 r5 t2 tl
      | fail)
     go_roundw
     case rel =>
      have hch : Chg (fun b => b = T) w5 (w5.setCell ⟨T, 2, none⟩ (.slice a5 (done.length + 1) cap5)) := (Chg.refl (fun b => b = T) w5).setCell (p := ⟨T, 2, none⟩) (.inr rfl) _
      have hl : (done ++ [s]).length = done.length + 1 := by simp
      refine ⟨done ++ [s], qq, j + 1, a5, cap5, xs ++ [.slice aL P.1.length cL], by go_num, by omega, by omega, by rw [hl]; omega, HNX, HR2, zH ?_, zH ?_, zH ?_, zH ?_, zH ?_⟩
      ·rw [HSN.out]
       exact (HSA2.out.row5 (B := T + 1) (by have := HTB.out; omega) HC5.out (fun k h => h.2.1) HNEW.out).other HNT.out HTB.out hch (fun k hk => hk)
      ·exact (HC7.out.trans HC5.out (fun k hk h => by have := h.2.1; omega)).trans hch (fun k hk h => by have h' : k = T := h; omega)
      ·rw [HSN.out, hl]
       exact HOK5.out.chg hch (fun b hb h => by have h' : b = T := h; omega)
      ·rw [hl]; exact HR5.out.set 2 _
      ·exact (((HRR.out.alloc (.cells #[.slice aL P.1.length cL] 28)).chg HC5.out (show ¬ _ by rintro ⟨_, h, _⟩; omega))).other (p := ⟨T, 2, none⟩) (by show w.heap.size ≠ T; omega) _
     case measure => simp [intOf]; omega
   ·have hbe : ((par q.b.l)[j] != (i : Int)) = true := by simp [hp]
    have HR2 : Hid (rest (par q.b.l) i (j + 1) = yX (i + 1 + zC done) todo) := zH (by rw [← zBK hjp hp]; exact HR.out)
    generalize (par q.b.l)[j] = pj at *
    clear hpa hpb
    go_wp2_with fail
    go_roundw
    case rel => exact ⟨done, todo, j + 1, aK, cK, xs, by go_num, by omega, by omega, hdl0, HD, HR2, HS, HT, HOK, RT, RR⟩
    case measure => simp [intOf]; omega
  ·obtain rfl : j = q.b.l.length := by omega
   have hre := zAV (P := par q.b.l) (v := (i : Int)) (i := q.b.l.length) (by omega)
   rw [HR.out] at hre
   obtain rfl := zBv hre
   have hd' : ks = done := by rw [HD.out]; simp
   subst hd'
   have t0 := RT.out.cell 0; have t1 := RT.out.cell 1; have t2 := RT.out.cell 2
   have y0 := RR.out.cell 0; have y1 := RR.out.cell 1; have y2 := RR.out.cell 2; have yf := RR.out.frozen; have yl := RR.out.lt
   simp only [pG] at t0 t1 t2 y0 y1 y2
   have zr := RR.out.set3 (u0 := .int .i64 0) (u1 := .string ⟨#[]⟩) (u2 := .slice aK ks.length cK)
   have z0 := zr.cell 0; have z1 := zr.cell 1; have z2 := zr.cell 2
   simp only [pG] at z0 z1 z2
   have hok := HOK.out.sl
   have hkl2 := HOK.out.len
   have HV := zH (RVQ.put (q := q) (p := (.mk 0 ByteArray.empty (zAe q.b ks (i + 1) st).1, (zAe q.b ks (i + 1) st).2)) (a := aK) (c := cK) (u0 := .int .i64 0) (u1 := .string ⟨#[]⟩) (u2 := .slice aK ks.length cK) HQ.out (zLP _) (by
    have h1 : Sl (fun k => w.heap.size ≤ k ∧ k ≠ w.heap.size) wr 1 aK (zAe q.b ks (i + 1) st).1.length cK xs := by rw [← hkl2]; exact hok.1.mono (fun k _ h => by have h' : T + 1 ≤ k := h; omega) (by decide)
    exact TrG.mk' (t := .mk 0 ByteArray.empty (zAe q.b ks (i + 1) st).1) (show ByteArray.empty.size ≤ maxLen by decide) h1 (hok.2.go (Chg.refl (fun _ => False) wr) (fun k _ h => ⟨fun h => h, by omega, by omega⟩))) HS.out HT.out)
   have HKL := zH hkl2
   clear hre zr hok hkl2 q1
   go_wp2_with fail
   refine bodyPost_ret (v := .agg #[.int .i64 0, .string ⟨#[]⟩, .slice aK ks.length cK]) (by simp [results, Try.results33, go_sem, z0, z1, z2]) rfl ?_
   rw [HEND.out]
   have := HV.out
   dsimp only [Tr.n, Tr.s, Tr.kids] at this
   rw [← HKL.out] at this
   exact this
theorem zDe (q : RQ) (hx : RX q) : ∀ (N : Nat) (s : Sh), s.size ≤ N → zFx q s
 | 0, .mk _ _ _ _, h => by simp [Sh.size] at h
 | N + 1, .mk nm rp kd ks, h => by
  by_cases hk : kd = 0
  ·subst hk
   simp only [Sh.size] at h
   exact zGA q hx nm rp ks (fun s hs => zDe q hx N s (by have := zBS hs; omega))
  ·exact zFC q hx _ hk
end Go.Proofs.Ytjbkjfefjhbolaa
