/-
 The walks of the striper's value. The walks of the striper's value, at groups; all of them.
-/
import Derived.Test.YtibhcibcfommeaaFld14S
set_option linter.unusedSimpArgs false
namespace Go.Proofs.Ytibhcibcfommeaa
open Go.RowKit Go.Shr
theorem trG_parts {ok : Nat → Prop} {w : World} {t : Tr} {cs : List Value} (h : TrG ok w t cs) : ∃ a cap xs, cs = [.int .i64 t.n, .string t.s, .slice a t.kids.length cap] ∧ t.s.size ≤ maxLen ∧ Sl ok w 1 a t.kids.length cap xs ∧ KidG ok w t.kids xs := by
 obtain ⟨n, s, ks⟩ := t
 simp only [TrG] at h
 obtain ⟨a, m, cap, xs, h1, h2, h3, h4⟩ := h
 have hm : m = ks.length := by have := h3.len; have := h4.len; omega
 subst hm
 exact ⟨a, cap, xs, h1, h2, h3, h4⟩
theorem kidG_at {ok : Nat → Prop} {w : World} : ∀ {ks : List (List Tr)} {xs : List Value} (_ : KidG ok w ks xs) (k : Nat) (hk : k < ks.length),
  ∃ a cap ys, xs[k]? = some (.slice a (ks[k]).length cap) ∧ Sl ok w 3 a (ks[k]).length cap ys ∧ RowG ok w ks[k] ys
 | l :: r, xs, h, 0, _ => by
  simp only [KidG] at h
  obtain ⟨a, m, cap, ys, xr, rfl, rfl, h3, h4, _⟩ := h
  exact ⟨a, cap, ys, rfl, h3, h4⟩
 | l :: r, xs, h, k + 1, hk => by
  simp only [KidG] at h
  obtain ⟨a, m, cap, ys, xr, rfl, _, _, _, h5⟩ := h
  simpa using kidG_at h5 k (by simpa using hk)
set_option maxHeartbeats 2000000 in
set_option maxRecDepth 100000 in
theorem val_leaf (p : SP) {sh : Sh} (hS : Sch p.l sh) (hl : p.lfs = leafs p.l p.l.length) (hll : p.l.length ≤ 1000) (s : Sh) (hk : s.kind ≠ 0) : VlOk p s := by
 intro i t a cap r d deep w G aa hx hn hg h hsh ht hr hd hdp
 obtain ⟨nm, rp, kd, ks⟩ := s
 simp only [Sh.kind] at hk
 simp only [Ix] at hx
 simp only [Sh.size] at hn
 have hi : i < p.l.length := by omega
 obtain ⟨hil, hie⟩ := List.getElem?_eq_some_iff.1 hx.1
 have hki : (flN p.l i).kind ≠ 0 := by rw [flN_eq hil, hie]; exact hk
 obtain ⟨k0, rs, hv, hk0, hlk⟩ := lv_leaf hS hl hi hki
 obtain ⟨hokl, la, lc, g0, gs⟩ := h.lvs i hi
 dsimp only at g0 gs
 rw [List.length_map] at g0 gs
 have hlv : 0 < (p.lv i).length := by rw [hv]; simp
 obtain ⟨lb, lo, rfl, hlb, hlc⟩ := gs.pos hlv
 have g1 := hlc 0 (.int .i64 (k0 : Int)) (by simp [ints, hv])
 rw [Nat.add_zero] at g1
 obtain ⟨sb, so, hsa, hsb, hsc⟩ := h.s.pos (by omega)
 have f2 := (fls_get p.l i hil).2.2.1
 rw [hie] at f2
 dsimp only at f2
 replace f2 := hsc _ _ f2
 rw [← Nat.add_assoc] at f2
 have q0 : w.cell? ⟨p.bx, 0, none⟩ = some (.slice p.sa p.l.length p.sc) := h.row.cell 0
 rw [hsa] at q0
 have q2 : w.cell? ⟨p.bx, 2, none⟩ = some (.slice (some ⟨p.bl, 0, none⟩) p.l.length p.l.length) := h.row.cell 2
 have hi0 : (0 : Int) ≤ (i : Int) := by omega
 have hi1 : (i : Int) < (p.l.length : Int) := by omega
 have hkb : (kd != 0) = true := by simp [hk]
 have hl1 : (0 : Int) < ((p.lv i).length : Int) := by omega
 have HF : Hid (∀ k, k < p.m → upd G k0 (G k0 ++ [⟨r, d, some ⟨t.n, t.s⟩⟩]) k = addG G (fun k => valC (p.lf k) i d deep r (.mk nm rp kd ks) t) k) := Lib.hid (fun k hkm => by
  unfold addG
  simp only [valC]
  rw [if_pos hk]
  by_cases hkk : k = k0
  ·subst hkk
   rw [upd_self, if_pos hlk.symm]
  ·rw [upd_ne _ _ hkk, if_neg (fun he => hkk (lf_inj hl hkm hk0 (by rw [hlk]; exact he.symm))), List.append_nil])
 have HNC : Hid ((¬ p.ch aa p.bl) ∧ (¬ p.ch aa lb) ∧ ¬ p.ch aa w.heap.size) := Lib.hid ⟨h.okch hokl, h.okch hlb, fun hc => by
  have := h.bds
  rcases hc with hc | hc | hc
  ·omega
  ·omega
  ·have := (h.tbs hc).2; omega⟩
 have HQ := Lib.hid h
 have hcb : ∀ b o v, w.cell? ⟨b, o, none⟩ = some v → (w.alloc (.cells #[.int .i64 t.n, .string t.s, .slice a t.kids.length cap] 29)).cell? ⟨b, o, none⟩ = some v := fun b o v hc => cb (ba (b0 w) _) hc
 replace f2 := hcb _ _ _ f2; replace q0 := hcb _ _ _ q0; replace q2 := hcb _ _ _ q2; replace g0 := hcb _ _ _ g0; replace g1 := hcb _ _ _ g1
 clear h hx hie hsc hlc gs hsh ht hg hcb
 go_enter Try.func33, Try.ntmps33
 go_upto_region 1 with fail
 refine gen_wz (fun w1 hw1 => ?_)
 have hb1 : Below w.heap.size w w1 := by rw [hw1]; exact ba (b0 w) _
 have r1 : Rw w1 w.heap.size #[.int .i64 t.n, .string t.s, .slice a t.kids.length cap] 29 := by rw [hw1]; exact Rw.new w _ _
 rw [← hw1] at f2 q0 q2 g0 g1
 clear hw1
 have HG := Lib.hid (And.intro q2 (And.intro g0 g1))
 have HR1 := Lib.hid r1; have HB1 := Lib.hid hb1
 clear r1 hb1
 go_wp2_with fail
 refine wp_region_F (fun w' => (w'.cell? ⟨p.bx, 2, none⟩ = some (.slice (some ⟨p.bl, 0, none⟩) p.l.length p.l.length) ∧ w'.cell? ⟨p.bl, i, none⟩ = some (.slice (some ⟨lb, lo, none⟩) (p.lv i).length lc) ∧ w'.cell? ⟨lb, lo, none⟩ = some (.int .i64 (k0 : Int))) ∧ w'.cell? ⟨w.heap.size, 0, none⟩ = some (.int .i64 t.n) ∧ w'.cell? ⟨w.heap.size, 1, none⟩ = some (.string t.s)) [] (by kernel_rfl) ?g11rgS (fun hHeld => ?g11rgR)
 case g11rgS => (try dsimp only); (first | exact ⟨HG.out, HR1.out.cell 0, HR1.out.cell 1⟩ | exact ⟨⟨cb hb17 hHeld.1.1, cb hb17 hHeld.1.2.1, cb hb17 hHeld.1.2.2⟩, cb hb17 hHeld.2.1, cb hb17 hHeld.2.2⟩ | exact ⟨⟨hs18.row.cell 2, ht18.1.keep hHeld.1.2.1 HNC.out.1, ht18.1.keep hHeld.1.2.2 HNC.out.2.1⟩, ht18.1.keep hHeld.2.1 HNC.out.2.2, ht18.1.keep hHeld.2.2 HNC.out.2.2⟩)
 try dsimp only at hHeld
 refine wpAnyF_take 0 (oi := ⟨some 23, .move (.tmp 0), 67, "shred.go:85", #[], none⟩) (v := ?g11rv1) rfl (by kernel_rfl) (fun _ _ _ h => h) (by assumption) (by rfl) ?g11ry1 ?g11rr1
 case g11ry1 => intro w hSw; obtain ⟨⟨s1, s2, s3⟩, s4, s5⟩ := hSw; go_simp; try with_reducible rfl
 try simp only [Act.put, pA, pB, pC]
 refine wpAnyF_take 1 (oi := ⟨some 24, .move (.tmp 0), 67, "shred.go:85", #[], none⟩) (v := ?g11rv2) rfl (by kernel_rfl) (fun _ _ _ h => h) (by assumption) (by rfl) ?g11ry2 ?g11rr2
 case g11ry2 => intro w hSw; obtain ⟨⟨s1, s2, s3⟩, s4, s5⟩ := hSw; go_simp; try with_reducible rfl
 try simp only [Act.put, pA, pB, pC]
 refine wpAnyF_take 2 (oi := ⟨some 25, .nilCheck (.tmp 24), 0, "shred.go:85", #[⟨1, .data⟩], none⟩) (v := ?g11rv3) rfl (by kernel_rfl) (fun _ _ _ h => h) (by assumption) (by rfl) ?g11ry3 ?g11rr3
 case g11ry3 => intro w hSw; obtain ⟨⟨s1, s2, s3⟩, s4, s5⟩ := hSw; go_simp; try with_reducible rfl
 try simp only [Act.put, pA, pB, pC]
 refine wpAnyF_take 3 (oi := ⟨some 26, .fieldAddr 72 (.tmp 25) 2, 0, "shred.go:85", #[⟨2, .data⟩], none⟩) (v := ?g11rv4) rfl (by kernel_rfl) (fun _ _ _ h => h) (by assumption) (by rfl) ?g11ry4 ?g11rr4
 case g11ry4 => intro w hSw; obtain ⟨⟨s1, s2, s3⟩, s4, s5⟩ := hSw; go_simp; try with_reducible rfl
 try simp only [Act.put, pA, pB, pC]
 refine wpAnyF_take 4 (oi := ⟨some 27, .load 23 (.tmp 26), 23, "shred.go:85", #[⟨3, .data⟩], none⟩) (v := ?g11rv5) rfl (by kernel_rfl) (fun _ _ _ h => h) (by assumption) (by rfl) ?g11ry5 ?g11rr5
 case g11ry5 => intro w hSw; obtain ⟨⟨s1, s2, s3⟩, s4, s5⟩ := hSw; go_simp; try with_reducible rfl
 try simp only [Act.put, pA, pB, pC]
 refine wpAnyF_take 5 (oi := ⟨some 28, .move (.tmp 1), 3, "shred.go:85", #[], none⟩) (v := ?g11rv6) rfl (by kernel_rfl) (fun _ _ _ h => h) (by assumption) (by rfl) ?g11ry6 ?g11rr6
 case g11ry6 => intro w hSw; obtain ⟨⟨s1, s2, s3⟩, s4, s5⟩ := hSw; go_simp; try with_reducible rfl
 try simp only [Act.put, pA, pB, pC]
 refine wpAnyF_take 6 (oi := ⟨some 29, .indexAddr 23 (.tmp 27) (.tmp 28), 0, "shred.go:85", #[⟨4, .data⟩, ⟨5, .data⟩], none⟩) (v := ?g11rv7) rfl (by kernel_rfl) (fun _ _ _ h => h) (by assumption) (by rfl) ?g11ry7 ?g11rr7
 case g11ry7 => intro w hSw; obtain ⟨⟨s1, s2, s3⟩, s4, s5⟩ := hSw; go_simp; try with_reducible rfl
 try simp only [Act.put, pA, pB, pC]
 refine wpAnyF_take 7 (oi := ⟨some 30, .load 22 (.tmp 29), 22, "shred.go:85", #[⟨6, .data⟩], none⟩) (v := ?g11rv8) rfl (by kernel_rfl) (fun _ _ _ h => h) (by assumption) (by rfl) ?g11ry8 ?g11rr8
 case g11ry8 => intro w hSw; obtain ⟨⟨s1, s2, s3⟩, s4, s5⟩ := hSw; go_simp; try with_reducible rfl
 try simp only [Act.put, pA, pB, pC]
 refine wpAnyF_take 8 (oi := ⟨some 31, .indexAddr 22 (.tmp 30) (.const (.int .i64 0)), 0, "shred.go:85", #[⟨7, .data⟩], none⟩) (v := ?g11rv9) rfl (by kernel_rfl) (fun _ _ _ h => h) (by assumption) (by rfl) ?g11ry9 ?g11rr9
 case g11ry9 => intro w hSw; obtain ⟨⟨s1, s2, s3⟩, s4, s5⟩ := hSw; go_simp; try with_reducible rfl
 try simp only [Act.put, pA, pB, pC]
 refine wpAnyF_take 9 (oi := ⟨some 32, .load 3 (.tmp 31), 3, "shred.go:85", #[⟨8, .data⟩], none⟩) (v := ?g11rv10) rfl (by kernel_rfl) (fun _ _ _ h => h) (by assumption) (by rfl) ?g11ry10 ?g11rr10
 case g11ry10 => intro w hSw; obtain ⟨⟨s1, s2, s3⟩, s4, s5⟩ := hSw; go_simp; try with_reducible rfl
 try simp only [Act.put, pA, pB, pC]
 refine wpAnyF_take 10 (oi := ⟨some 33, .move (.tmp 3), 3, "shred.go:85", #[], none⟩) (v := ?g11rv11) rfl (by kernel_rfl) (fun _ _ _ h => h) (by assumption) (by rfl) ?g11ry11 ?g11rr11
 case g11ry11 => intro w hSw; obtain ⟨⟨s1, s2, s3⟩, s4, s5⟩ := hSw; go_simp; try with_reducible rfl
 try simp only [Act.put, pA, pB, pC]
 refine wpAnyF_take 11 (oi := ⟨some 34, .move (.tmp 4), 3, "shred.go:85", #[], none⟩) (v := ?g11rv12) rfl (by kernel_rfl) (fun _ _ _ h => h) (by assumption) (by rfl) ?g11ry12 ?g11rr12
 case g11ry12 => intro w hSw; obtain ⟨⟨s1, s2, s3⟩, s4, s5⟩ := hSw; go_simp; try with_reducible rfl
 try simp only [Act.put, pA, pB, pC]
 refine wpAnyF_take 12 (oi := ⟨some 35, .fieldAddr 29 (.tmp 8) 0, 0, "shred.go:85", #[], none⟩) (v := ?g11rv13) rfl (by kernel_rfl) (fun _ _ _ h => h) (by assumption) (by rfl) ?g11ry13 ?g11rr13
 case g11ry13 => intro w hSw; obtain ⟨⟨s1, s2, s3⟩, s4, s5⟩ := hSw; go_simp; try with_reducible rfl
 try simp only [Act.put, pA, pB, pC]
 refine wpAnyF_take 13 (oi := ⟨some 36, .load 3 (.tmp 35), 3, "shred.go:85", #[⟨12, .data⟩], none⟩) (v := ?g11rv14) rfl (by kernel_rfl) (fun _ _ _ h => h) (by assumption) (by rfl) ?g11ry14 ?g11rr14
 case g11ry14 => intro w hSw; obtain ⟨⟨s1, s2, s3⟩, s4, s5⟩ := hSw; go_simp; try with_reducible rfl
 try simp only [Act.put, pA, pB, pC]
 refine wpAnyF_take 14 (oi := ⟨some 37, .fieldAddr 29 (.tmp 8) 1, 0, "shred.go:85", #[], none⟩) (v := ?g11rv15) rfl (by kernel_rfl) (fun _ _ _ h => h) (by assumption) (by rfl) ?g11ry15 ?g11rr15
 case g11ry15 => intro w hSw; obtain ⟨⟨s1, s2, s3⟩, s4, s5⟩ := hSw; go_simp; try with_reducible rfl
 try simp only [Act.put, pA, pB, pC]
 refine wpAnyF_take 15 (oi := ⟨some 38, .load 9 (.tmp 37), 9, "shred.go:85", #[⟨14, .data⟩], none⟩) (v := ?g11rv16) rfl (by kernel_rfl) (fun _ _ _ h => h) (by assumption) (by rfl) ?g11ry16 ?g11rr16
 case g11ry16 => intro w hSw; obtain ⟨⟨s1, s2, s3⟩, s4, s5⟩ := hSw; go_simp; try with_reducible rfl
 try simp only [Act.put, pA, pB, pC]
 refine wpAnyF_take 16 (oi := ⟨some 39, .build 54 #[(0, .tmp 36), (1, .tmp 38)], 54, "shred.go:85", #[⟨13, .data⟩, ⟨15, .data⟩], none⟩) (v := ?g11rv17) rfl (by kernel_rfl) (fun _ _ _ h => h) (by assumption) (by rfl) ?g11ry17 ?g11rr17
 case g11ry17 => intro w hSw; obtain ⟨⟨s1, s2, s3⟩, s4, s5⟩ := hSw; go_simp; try with_reducible rfl
 try simp only [Act.put, pA, pB, pC]
 refine wpAnyF_ready [17] (by kernel_rfl) (by simp) ?_
 refine AllReadyF.cons 17 (o := ⟨some 40, .buildSlice 44 1 #[(0, .tmp 39)], 44, "shred.go:85", #[⟨16, .data⟩], none⟩) rfl (fun K hK => ?g11ro18) ?g11rm18
 case g11rm18 => exact AllReadyF.nil
 go_simp; refine gen_w (fun W17 hW17 => ?_); (have hb17 : Below w1.drew.heap.size w1.drew W17 := by rw [hW17]; exact ba (b0 w1.drew) _); (have rv17 : Rw W17 w1.drew.heap.size #[.int .i64 t.n, .string t.s] 54 := by rw [hW17]; exact Rw.new w1.drew _ _); clear hW17
 refine hK.out _ _ ?g11rs18 (fun hHeld => ?g11rt18)
 case g11rs18 => (try dsimp only); (first | exact ⟨HG.out, HR1.out.cell 0, HR1.out.cell 1⟩ | exact ⟨⟨cb hb17 hHeld.1.1, cb hb17 hHeld.1.2.1, cb hb17 hHeld.1.2.2⟩, cb hb17 hHeld.2.1, cb hb17 hHeld.2.2⟩ | exact ⟨⟨hs18.row.cell 2, ht18.1.keep hHeld.1.2.1 HNC.out.1, ht18.1.keep hHeld.1.2.2 HNC.out.2.1⟩, ht18.1.keep hHeld.2.1 HNC.out.2.2, ht18.1.keep hHeld.2.2 HNC.out.2.2⟩)
 try dsimp only at hHeld
 clear hK K
 try simp only [Act.put, pA, pB, pC]
 refine wpAnyF_ready [18] (by kernel_rfl) (by simp) ?_
 refine AllReadyF.cons 18 (o := ⟨some 41, .call { callee := .value (.func 51), args := #[.tmp 23, .tmp 32, .tmp 33, .tmp 34, .tmp 40], argTypes := #[67, 3, 3, 3, 44] }, 0, "shred.go:85", #[⟨0, .data⟩, ⟨9, .data⟩, ⟨10, .data⟩, ⟨11, .data⟩, ⟨17, .data⟩], none⟩) rfl (fun K hK => ?g11ro19) ?g11rm19
 case g11rm19 => exact AllReadyF.nil
 go_simp; refine (cell_some p G aa k0 hk0 r d ⟨t.n, t.s⟩ w1.drew W17 ((HQ.out.below HB1.out).below (b0 w1).drew) hb17 rv17).mono ?_; rintro e W18 ⟨rfl, aa', hs18, ht18⟩; dsimp only
 refine hK.out _ _ ?g11rs19 (fun hHeld => ?g11rt19)
 case g11rs19 => (try dsimp only); (first | exact ⟨HG.out, HR1.out.cell 0, HR1.out.cell 1⟩ | exact ⟨⟨cb hb17 hHeld.1.1, cb hb17 hHeld.1.2.1, cb hb17 hHeld.1.2.2⟩, cb hb17 hHeld.2.1, cb hb17 hHeld.2.2⟩ | exact ⟨⟨hs18.row.cell 2, ht18.1.keep hHeld.1.2.1 HNC.out.1, ht18.1.keep hHeld.1.2.2 HNC.out.2.1⟩, ht18.1.keep hHeld.2.1 HNC.out.2.2, ht18.1.keep hHeld.2.2 HNC.out.2.2⟩)
 try dsimp only at hHeld
 clear hK K
 try simp only [Act.put, pA, pB, pC]
 refine wpAnyF_done (by kernel_rfl) ?_
 have hst := (Stp.below (p := p) (aa := aa) HB1.out).trans ((Stp.below (w := w1) (w' := W17) (show Below w1.heap.size w1 W17 from bt (b0 w1).drew hb17)).trans ht18)
 clear hHeld
 go_wp2_with fail
 refine bodyPost_end (v := .tuple #[]) (by simp [results, Try.results33, go_sem]) rfl ?_
 exact ⟨rfl, aa', hs18.congr HF.out, hst⟩
end Go.Proofs.Ytibhcibcfommeaa
namespace Go.Proofs.Ytibhcibcfommeaa
open Go.RowKit Go.Shr
theorem fld_ok (p : SP) (hl : p.lfs = leafs p.l p.l.length) (hll : p.l.length ≤ 1000) (s : Sh) (hV : VlOk p s) : FldOk p s := by
 intro i x a cap ys r d deep w G aa hx hn hg h hsh hx50 hsl hrw hr hd hdp
 by_cases h0 : x = []
 ·subst h0
  exact fld_none p hl hll s i a cap r d deep w G aa hx hn h
 ·exact fld_some p hll s hV i x h0 a cap ys r d deep w G aa hx hn hg h hsh hx50 hsl hrw hr hd hdp
theorem ixL_at14 {l : List Fl} {K : Int → List Int} : ∀ (ks : List Sh) (o j : Nat) (h : j < ks.length), IxL l K o ks → (offs o ks)[j]? = some ((o + shSizes (ks.take j) : Nat) : Int) ∧ Ix l K (o + shSizes (ks.take j)) ks[j] ∧ shSizes (ks.take j) + ks[j].size ≤ shSizes ks
 | s :: r, o, 0, _, h => by simp only [IxL] at h; simpa [offs, shSizes] using h.1
 | s :: r, o, j + 1, hj, h => by
  simp only [IxL] at h
  have ih := ixL_at14 r (o + s.size) j (by simpa using hj) h.2
  simp only [offs, List.take_succ_cons, shSizes, List.getElem?_cons_succ, List.getElem_cons_succ, ← Nat.add_assoc]
  exact ⟨ih.1, ih.2.1, by have := ih.2.2; omega⟩
set_option maxHeartbeats 1000000 in
set_option maxRecDepth 100000 in
theorem val_grp (p : SP) (hll : p.l.length ≤ 1000) (nm : ByteArray) (rp : Int) (ks : List Sh) (hkl : ks.length ≤ 1000) (IH : ∀ s ∈ ks, FldOk p s) : VlOk p (.mk nm rp 0 ks) := by
 intro i t a cap r d deep w G aa hx hn hg h hsh ht hr hd hdp
 simp only [shT] at hsh
 have hsh := hsh (by trivial)
 simp only [GoodS] at hg
 simp only [Ix] at hx
 simp only [Sh.size] at hn hd hdp
 have hi : i < p.l.length := by omega
 obtain ⟨hil, hie⟩ := List.getElem?_eq_some_iff.1 hx.1
 have hKO : kidsOf (par p.l) (i : Int) = offs (i + 1) ks := hx.2.1
 obtain ⟨hokk, ka, kc, g0, gs⟩ := h.kids i hi
 dsimp only at g0 gs
 rw [hKO, offs_len] at g0 gs
 obtain ⟨sb, so, hsa, hsb, hsc⟩ := h.s.pos (by omega)
 have f2 := (fls_get p.l i hil).2.2.1
 rw [hie] at f2
 dsimp only at f2
 replace f2 := hsc _ _ f2
 rw [← Nat.add_assoc] at f2
 have q0 : w.cell? ⟨p.bx, 0, none⟩ = some (.slice p.sa p.l.length p.sc) := h.row.cell 0
 rw [hsa] at q0
 have q1 : w.cell? ⟨p.bx, 1, none⟩ = some (.slice (some ⟨p.bk, 0, none⟩) p.l.length p.l.length) := h.row.cell 1
 have hi0 : (0 : Int) ≤ (i : Int) := by omega
 have hi1 : (i : Int) < (p.l.length : Int) := by omega
 have hkt := shK_len hsh
 have HKL := Lib.hid hkt
 have hkl2 : t.kids.length ≤ 1000 := by rw [hkt]; exact hkl
 obtain ⟨ta, tc, txs, hcs, hts, htsl, htk⟩ := trG_parts ht
 simp at hcs
 obtain ⟨rfl, rfl⟩ := hcs
 have HNB : Hid (¬ p.ch aa w.heap.size) := Lib.hid (fun hc => by
  have := h.bds
  rcases hc with hc | hc | hc
  ·omega
  ·omega
  ·have := (h.tbs hc).2; omega)
 have HQ := Lib.hid h; have HGS := Lib.hid gs; have HIX := Lib.hid hx.2.2; have HGL := Lib.hid hg.2.2.2.2.2.2; have HSH := Lib.hid hsh; have HTS := Lib.hid htsl; have HTK := Lib.hid htk; have HIH := Lib.hid IH
 have HE : Hid (∀ lf, valC lf i d deep r (.mk nm rp 0 ks) t = kidC lf (i + 1) d deep r ks t.kids) := Lib.hid (fun lf => by simp only [valC]; rw [if_neg (by decide)])
 have hcb : ∀ b o v, w.cell? ⟨b, o, none⟩ = some v → (w.alloc (.cells #[.int .i64 t.n, .string t.s, .slice a t.kids.length cap] 29)).cell? ⟨b, o, none⟩ = some v := fun b o v hc => cb (ba (b0 w) _) hc
 replace f2 := hcb _ _ _ f2; replace q0 := hcb _ _ _ q0; replace q1 := hcb _ _ _ q1; replace g0 := hcb _ _ _ g0
 clear h hx hie hsc gs hsh ht hg hcb hKO htsl htk IH hkt
 go_enter Try.func33, Try.ntmps33
 go_upto_region 1 with fail
 refine gen_wz (fun w1 hw1 => ?_)
 have hb1 : Below w.heap.size w w1 := by rw [hw1]; exact ba (b0 w) _
 have r1 : Rw w1 w.heap.size #[.int .i64 t.n, .string t.s, .slice a t.kids.length cap] 29 := by rw [hw1]; exact Rw.new w _ _
 rw [← hw1] at f2 q0 q1 g0
 clear hw1
 have hz1 := r1.lt
 have HR1 := Lib.hid r1; have HB1 := Lib.hid hb1
 have HQ1 := Lib.hid (HQ.out.below hb1)
 have HGS1 := Lib.hid (HGS.out.go (ok' := p.ok) (chF hb1) (fun b _ hb => ⟨fun h => h, hb⟩) (by decide))
 have HTS1 := Lib.hid (HTS.out.go (ok' := fun b => b < p.B0) (chF hb1) (fun b _ hb => ⟨fun h => h, hb⟩) (by decide))
 have HTK1 := Lib.hid (HTK.out.go (ok' := fun b => b < p.B0) (chF hb1) (fun b _ hb => ⟨fun h => h, hb⟩))
 clear r1 hb1 HGS HTS HTK
 go_wp2_with fail
 clear f2 q0 q1 g0
 go_loopw [50] (fun jv wr => ∃ (done todo : List Sh) (aa1 : Nat → Option Addr), jv = .int .i64 (done.length : Int) ∧ Hid (ks = done ++ todo) ∧ Hid (Str p wr (addG G (fun k => kidC (p.lf k) (i + 1) d deep r done (t.kids.take done.length))) aa1) ∧ Hid (Stp p aa w1 aa1 wr) ∧ Hid (Rw wr w.heap.size #[.int .i64 t.n, .string t.s, .slice a t.kids.length cap] 29)) (fun jv _ => ks.length - (intOf jv).toNat)
 case atStart => exact ⟨[], ks, aa, rfl, Lib.hid rfl, Lib.hid (HQ1.out.congr (fun k _ => by simp [addG, kidC])), Lib.hid (Stp.below (b0 w1)), HR1⟩
 case round =>
  obtain ⟨done, todo, aa1, rfl, HD, HS, HT, HR⟩ := hrel
  have hdl : done.length ≤ ks.length := by have := congrArg List.length HD.out; simp at this; omega
  by_cases hlt : done.length < ks.length
  ·obtain ⟨s, q, hq⟩ : ∃ s q, todo = s :: q := by
    cases todo with
    | nil => have := congrArg List.length HD.out; simp at this; omega
    | cons s q => exact ⟨s, q, rfl⟩
   have htd : ks.take done.length = done := by rw [HD.out]; simp
   have hsk : ks[done.length] = s := by simp [HD.out, hq]
   obtain ⟨ho, hixs, hos⟩ := ixL_at14 ks (i + 1) done.length hlt HIX.out
   rw [htd] at ho hixs hos
   rw [hsk] at hixs hos
   obtain ⟨o, hoo⟩ : ∃ o, o = i + 1 + shSizes done := ⟨_, rfl⟩
   rw [← hoo] at ho hixs
   have hon : o + s.size ≤ p.l.length := by omega
   have hss : 1 + s.size ≤ 1 + shSizes ks := by omega
   have hdk : done.length < t.kids.length := by rw [HKL.out]; exact hlt
   have hsm : s ∈ ks := by rw [HD.out, hq]; simp
   have hsg := GoodL_mem HGL.out hsm
   have hok := shK_get HSH.out done.length hlt hdk
   rw [hsk] at hok
   have HSN : Hid (∀ lf, kidC lf (i + 1) d deep r (done ++ [s]) (t.kids.take (done.length + 1)) = kidC lf (i + 1) d deep r done (t.kids.take done.length) ++ fldC lf o d deep r s t.kids[done.length]) := Lib.hid (fun lf => by
    rw [List.take_succ_eq_append_getElem hdk, kidC_snoc _ _ _ _ _ (by rw [List.length_take]; omega), ← hoo])
   have HV := Lib.hid (HIH.out s hsm)
   have HNX : Hid (ks = (done ++ [s]) ++ q) := Lib.hid (by rw [HD.out, hq]; simp)
   have HLS : Hid ((done ++ [s]).length = done.length + 1) := Lib.hid (by simp)
   have HIXS := Lib.hid hixs; have HSG := Lib.hid hsg; have HOKX := Lib.hid hok.2
   have hx50 := hok.1
   have hgs := HGS1.out.go (ok' := p.ok) HT.out.1 (fun b _ hb => ⟨HQ1.out.okch hb, hb⟩) (by decide)
   obtain ⟨kb, ko, rfl, hkb, hkc⟩ := hgs.pos (by omega)
   have hio : (ints (offs (i + 1) ks))[done.length]? = some (.int .i64 (o : Int)) := by simp only [ints, List.getElem?_map, ho]; rfl
   have c0 := hkc _ _ hio
   have hts := HTS1.out.go (ok' := fun b => b < p.B0) HT.out.1 (fun b _ hb => ⟨HQ1.out.low hb, hb⟩) (by decide)
   have htk := HTK1.out.go (ok' := fun b => b < p.B0) HT.out.1 (fun b _ hb => ⟨HQ1.out.low hb, hb⟩)
   obtain ⟨tb, toff, rfl, htb, htc⟩ := hts.pos (by omega)
   obtain ⟨xa, xcap, xys, hxg, hxs, hxr⟩ := kidG_at htk done.length hdk
   have c1 := htc _ _ hxg
   have z2 : wr.cell? ⟨w.heap.size, 2, none⟩ = some (.slice (some ⟨tb, toff, none⟩) t.kids.length cap) := HR.out.cell 2
   have HXS := Lib.hid hxs; have HXR := Lib.hid hxr
   have hdi : (done.length : Int) < (t.kids.length : Int) := by omega
   generalize t.kids[done.length] = x at *
   clear hq htd hsk ho hixs hos hsm hsg hok hgs hkc hio hts htk htc hxg hxs hxr HD hoo
   go_wp2_with fail
   refine (HV.out o x xa xcap xys r d deep wr _ aa1 HIXS.out hon HSG.out HS.out HOKX.out hx50 HXS.out HXR.out hr (by omega) (by omega)).mono ?_
   rintro e w2 ⟨rfl, aa2, hs2, ht2⟩
   have HS2 := Lib.hid (hs2.congr (G' := addG G (fun k => kidC (p.lf k) (i + 1) d deep r (done ++ [s]) (t.kids.take (done ++ [s]).length))) (fun k _ => by
    unfold addG
    dsimp only
    rw [HLS.out, HSN.out, List.append_assoc]))
   have HT2 := Lib.hid (HT.out.trans ht2)
   have HR2 := Lib.hid (HR.out.chg ht2.1 (fun hc => by
    have hbd := HQ.out.bds
    rcases hc with hc | hc | hc
    ·omega
    ·omega
    ·rcases HT.out.2 _ hc with h1 | h1
     ·exact HNB.out (.inr (.inr h1))
     ·omega))
   clear hs2 ht2 c0 c1 z2
   go_wp2_with fail
   go_roundw
   case rel => exact ⟨done ++ [s], q, aa2, by rw [HLS.out]; go_num, HNX, HS2, HT2, HR2⟩
   case measure => simp [intOf]; omega
  ·obtain rfl : todo = [] := by
    cases todo with
    | nil => rfl
    | cons s q => have := congrArg List.length HD.out; simp at this; omega
   have hd' : ks = done := by rw [HD.out]; simp
   subst hd'
   clear hlt
   go_wp2_with fail
   refine bodyPost_end (v := .tuple #[]) (by simp [results, Try.results33, go_sem]) rfl ?_
   refine ⟨rfl, aa1, HS.out.congr (fun k _ => ?_), (Stp.below HB1.out).trans HT.out⟩
   unfold addG
   dsimp only
   rw [HE.out, List.take_of_length_le (by rw [HKL.out]; exact Nat.le_refl _)]
theorem sval_all (p : SP) {sh : Sh} (hS : Sch p.l sh) (hl : p.lfs = leafs p.l p.l.length) (hll : p.l.length ≤ 1000) : ∀ (N : Nat) (s : Sh), s.size ≤ N → N ≤ 1000 → VlOk p s
 | 0, .mk _ _ _ _, h, _ => by simp [Sh.size] at h
 | N + 1, .mk nm rp kd ks, h, hN => by
  by_cases hk : kd = 0
  ·subst hk
   simp only [Sh.size] at h
   have hkl := kids_sizes ks
   refine val_grp p hll nm rp ks (by omega) (fun s hs => fld_ok p hl hll s (sval_all p hS hl hll N s ?_ (by omega)))
   have : ∀ (q : List Sh), s ∈ q → s.size ≤ shSizes q := by
    intro q
    induction q with
    | nil => intro h; cases h
    | cons x q ih =>
     intro h
     rcases List.mem_cons.1 h with rfl | h
     ·simp [shSizes]
     ·have := ih h; simp only [shSizes]; omega
   have := this ks hs
   omega
  ·exact val_leaf p hS hl hll _ hk
end Go.Proofs.Ytibhcibcfommeaa
