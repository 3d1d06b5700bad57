import Derived.Test.YtjbkjfefjhbolaakRNon14
import Derived.Test.YtjbkjfefjhbolaakMany9
import Derived.Test.YtjbkjfefjhbolaakOf14
set_option linter.all false
open List renaming length_append → zLP, replicate → zLR, getElem?_eq_some_iff → zLS, append_assoc → zLT, take_of_length_le → zLU, take_succ_eq_append_getElem → zLV
open Nat renaming add_assoc → zLQ, le_refl → zLW, succ_pos → zLX
open And renaming intro → zLY
set_option maxHeartbeats 40000000
set_option maxRecDepth 100000
namespace Go.Proofs.Ytjbkjfefjhbolaa
open Go.RowKit Go.Shr
theorem zGa (lf d deep r : Nat) : ∀ (done todo : List Sh) (xs : List (List Tr)) (o : Nat), (qB lf o d deep r done (xs.take done.length)).length ≤ (qB lf o d deep r (done ++ todo) xs).length
 | [], todo, xs, o => by simp [qB]
 | s :: q, todo, [], o => by simp [qB]
 | s :: q, todo, x :: xs, o => by
  have := zGa lf d deep r q todo xs (o + s.size)
  simp only [List.cons_append, List.length_cons, List.take_succ_cons, xH, zLP]; omega
theorem zEL {lf o d deep r : Nat} {s : Sh} {x : List Tr} : ∀ (n g : Nat), g + n ≤ x.length → (jW lf o d deep r s x g).length ≤ (jW lf o d deep r s x (g + n)).length
 | 0, g, _ => zLW _
 | n + 1, g, h => by
  have := zEL (lf := lf) (o := o) (d := d) (deep := deep) (r := r) (s := s) (x := x) n g (by omega)
  have e := zCF (lf := lf) (o := o) (d := d) (deep := deep) (r := r) (s := s) (x := x) (g := g + n) (by omega)
  rw [show g + (n + 1) = g + n + 1 by omega, e, zLP]; omega
theorem zJe {lf o d deep r : Nat} {s : Sh} {x : List Tr} (h0 : x ≠ []) {g : Nat} (hg : g ≤ x.length) : (jW lf o d deep r s x g).length ≤ (jO lf o d deep r s x).length := by
 have := zEL (lf := lf) (o := o) (d := d) (deep := deep) (r := r) (s := s) (x := x) (x.length - g) g (by omega)
 rw [show g + (x.length - g) = x.length by omega, zBw h0] at this
 exact this
theorem nch {p : SP} {aa aa1 : Nat → Option Addr} {w1 wr : World} {b : Nat} (hT : Stp p aa w1 aa1 wr) (hn : ¬ p.ch aa b) (hlt : b < w1.heap.size) : ¬ p.ch aa1 b := fun hc => by
 rcases hc with hc | hc | hc
 ·exact hn (.inl hc)
 ·exact hn (.inr (.inl hc))
 ·rcases hT.2 b hc with h1 | h1
  ·exact hn (.inr (.inr h1))
  ·omega
def zKH (q : WP) (s : Sh) : Prop := ∀ (i : Nat) (t : Tr) (a : Option Addr) (cap : Nat) (r d : Nat) (w : World) (G : Nat → List Cel) (aa : Nat → Option Addr), Ix q.p.l (fun v => zK (par q.p.l) v) i s → i + s.size ≤ q.p.l.length → zR s → Wk q w G aa → shT s t →
 TrG (fun b => b < q.p.B0) w t [.int .i64 t.n, .string t.s, .slice a t.kids.length cap] → r ≤ 20000 → d + s.size ≤ 10001 →
 (∀ k, k < q.p.m → (G k).length + (yK (q.p.lf k) i d (lvR q.p.l i) r s t).length ≤ 1000000000000) →
 Calls Try.prog 25 #[.pointer (some ⟨q.p.bx, 0, none⟩), .int .i64 (i : Int), .int .i64 (r : Int), .int .i64 (d : Int), .agg #[.int .i64 t.n, .string t.s, .slice a t.kids.length cap]] w (WkQ q (yH G fun k => yK (q.p.lf k) i d (lvR q.p.l i) r s t) aa w)
theorem zHR (q : WP) {sh : Sh} (hS : Sch q.p.l sh) (hl : q.p.lfs = zG q.p.l q.p.l.length) (hll : q.p.l.length ≤ 1000) (s : Sh) (hk : s.kind ≠ 0) : zKH q s := by
 intro i t a cap r d w G aa hx hn hg h hsh ht hr hd hG
 obtain ⟨nm, rp, kd, ks⟩ := s
 simp only [Sh.kind] at hk
 simp only [Ix] at hx
 simp only [Sh.size] at hn
 have hi : i < q.p.l.length := by omega
 obtain ⟨hil, hie⟩ := zLS.1 hx.1
 have hki : (flN q.p.l i).kind ≠ 0 := by rw [qS hil, hie]; exact hk
 obtain ⟨k0, rs, hv, hk0, hlk⟩ := zFd hS hl hi hki
 have hkb : (kd != 0) = true := by simp [hk]
 have hvc : ∀ k, yK (q.p.lf k) i d (lvR q.p.l i) r (.mk nm rp kd ks) t = if i = q.p.lf k then [⟨r, d, some ⟨t.n, t.s⟩⟩] else [] := fun k => by simp only [yK]; rw [if_pos hk]
 have HF : Hid (∀ k, k < q.p.m → upd G k0 (G k0 ++ [⟨r, d, some ⟨t.n, t.s⟩⟩]) k = yH G (fun k => yK (q.p.lf k) i d (lvR q.p.l i) r (.mk nm rp kd ks) t) k) := zH (zGo hl hk0 (by rw [hvc, if_pos hlk.symm]) (fun k _ hne => by rw [hvc, if_neg (fun he => hne (by rw [hlk]; exact he.symm))]))
 have hgk := hG k0 hk0
 rw [hvc, if_pos hlk.symm, List.length_singleton] at hgk
 obtain ⟨sb, so, hsa, hsb, hsc⟩ := h.s.pos (by omega)
 have f2 := (yB q.p.l i hil).2.2.1
 rw [hie] at f2
 dsimp only at f2
 replace f2 := hsc _ _ f2
 rw [← zLQ] at f2
 have q0 : w.cell? ⟨q.p.bx, 0, none⟩ = some (.slice q.p.sa q.p.l.length q.p.sc) := h.row.cell 0
 rw [hsa] at q0
 have hi1 : (i : Int) < (q.p.l.length : Int) := by omega
 have HQ := zH h; have HLF := zH hl
 have hcb : ∀ b o v, w.cell? ⟨b, o, none⟩ = some v → (w.alloc (.cells #[.int .i64 t.n, .string t.s, .slice a t.kids.length cap] 57)).cell? ⟨b, o, none⟩ = some v := fun b o v hc => cb (ba (b0 w) _) hc
 replace f2 := hcb _ _ _ f2; replace q0 := hcb _ _ _ q0
 clear h hx hie hsc hg hvc hG hl hcb hsh ht
 subst hlk
 go_enter Try.func25, Try.ntmps25
 go_upto_region 1 with fail
 refine zAC (fun w1 hw1 => ?_)
 have hb1 : Below w.heap.size w w1 := by rw [hw1]; exact ba (b0 w) _
 have r1 : Rw w1 w.heap.size #[.int .i64 t.n, .string t.s, .slice a t.kids.length cap] 57 := by rw [hw1]; exact Rw.new w _ _
 rw [← hw1] at f2 q0
 clear hw1
 have y0 : w1.cell? ⟨w.heap.size, 0, none⟩ = some (.int .i64 t.n) := r1.cell 0
 have y1 : w1.cell? ⟨w.heap.size, 1, none⟩ = some (.string t.s) := r1.cell 1
 have HB1 := zH hb1
 clear r1 hb1
 go_wp2_with fail
 refine (zHm q HLF.out hll G aa k0 hk0 (by omega) r d ⟨t.n, t.s⟩ true w1 (HQ.out.below HB1.out)).mono ?_
 rintro e w2 ⟨rfl, aa2, hs2, ht2⟩
 have HS2 := zH (hs2.congr (G' := yH G (fun k => yK (q.p.lf k) (q.p.lf k0) d (lvR q.p.l (q.p.lf k0)) r (.mk nm rp kd ks) t)) HF.out)
 have HT2 := zH ((Stp.below (p := q.p) (aa := aa) HB1.out).trans ht2)
 clear hs2 ht2 q0 f2 y0 y1
 go_wp2_with fail
 refine bodyPost_end (v := .tuple #[]) (by simp [results, Try.results25, go_sem]) rfl ?_
 exact ⟨rfl, aa2, HS2.out, HT2.out⟩
theorem zIL (q : WP) {sh : Sh} (hS : Sch q.p.l sh) (hl : q.p.lfs = zG q.p.l q.p.l.length) (hll : q.p.l.length ≤ 1000) (nm : ByteArray) (rp : Int) (ks : List Sh) (IH : ∀ s ∈ ks, zKH q s) : zKH q (.mk nm rp 0 ks) := by
 intro i t a cap r d w G aa hx hn hg h hsh ht hr hd hG
 simp only [shT] at hsh
 have hsh := hsh (by trivial)
 simp only [zR] at hg
 simp only [Ix] at hx
 simp only [Sh.size] at hn hd
 have hi : i < q.p.l.length := by omega
 obtain ⟨hil, hie⟩ := zLS.1 hx.1
 have hKO : zK (par q.p.l) (i : Int) = yX (i + 1) ks := hx.2.1
 obtain ⟨sb, so, hsa, hsb, hsc⟩ := h.s.pos (by omega)
 have f2 := (yB q.p.l i hil).2.2.1
 rw [hie] at f2
 dsimp only at f2
 replace f2 := hsc _ _ f2
 rw [← zLQ] at f2
 have q0 : w.cell? ⟨q.p.bx, 0, none⟩ = some (.slice q.p.sa q.p.l.length q.p.sc) := h.row.cell 0
 rw [hsa] at q0
 have hi1 : (i : Int) < (q.p.l.length : Int) := by omega
 have hpl := zW q.p.l
 have hkt := zE9 hsh
 have HKL := zH hkt
 have HRS : Hid (rest (par q.p.l) i (i + 1) = yX (i + 1 + zC []) ks) := zH (by
  rw [wD (fun j hj => (yI q.p.l j hj).2), ← wJ]; exact hKO)
 obtain ⟨ta, tc, txs, hcs, hts, htsl, htk⟩ := zEg ht
 simp at hcs
 obtain ⟨rfl, rfl⟩ := hcs
 have hkl2 : t.kids.length ≤ 1000 := by
  have h1 := qP ks
  omega
 have HE : Hid (∀ lf, yK lf i d (lvR q.p.l i) r (.mk nm rp 0 ks) t = qB lf (i + 1) d (lvR q.p.l i) r ks t.kids) := zH (fun lf => by simp only [yK]; rw [if_neg (by decide)])
 have HG : Hid (∀ k, k < q.p.m → (G k).length + (qB (q.p.lf k) (i + 1) d (lvR q.p.l i) r ks t.kids).length ≤ 1000000000000) := zH (fun k hk => by have := hG k hk; rw [HE.out] at this; exact this)
 have HNB := zH h.new
 have HQ := zH h; have HIX := zH hx.2.2; have HGL := zH hg.2.2.2.2.2.2; have HIH := zH IH; have HSH := zH hsh; have HTS := zH htsl; have HTK := zH htk
 have hcb : ∀ b o v, w.cell? ⟨b, o, none⟩ = some v → (w.alloc (.cells #[.int .i64 t.n, .string t.s, .slice a t.kids.length cap] 57)).cell? ⟨b, o, none⟩ = some v := fun b o v hc => cb (ba (b0 w) _) hc
 replace f2 := hcb _ _ _ f2; replace q0 := hcb _ _ _ q0
 obtain ⟨Ri, hRi⟩ : ∃ Ri, Ri = lvR q.p.l i := ⟨_, rfl⟩
 have HRI := zH hRi
 rw [← hRi] at HE HG ⊢
 have hRl : Ri ≤ 1000 := by
  rw [hRi]; unfold lvR
  have h1 := zAE q.p.l (Go.Shr.chain (par q.p.l) i); have h3 := xJ (par q.p.l) i; omega
 clear h hx hie hsc hg hsh ht hG hKO IH hcb htsl htk hkt hRi
 go_enter Try.func25, Try.ntmps25
 go_upto_region 1 with fail
 refine zAC (fun w1 hw1 => ?_)
 have hb1 : Below w.heap.size w w1 := by rw [hw1]; exact ba (b0 w) _
 have r1 : Rw w1 w.heap.size #[.int .i64 t.n, .string t.s, .slice a t.kids.length cap] 57 := by rw [hw1]; exact Rw.new w _ _
 rw [← hw1] at f2 q0
 clear hw1
 obtain ⟨bt', hbt⟩ : ∃ b, b = w.heap.size := ⟨_, rfl⟩
 rw [← hbt] at r1 HNB ⊢
 have hbtl : bt' < w1.heap.size := r1.lt
 have HR1 := zH r1; have HB1 := zH hb1
 have HQ1 := zH (HQ.out.below hb1)
 have HTS1 := zH (HTS.out.go (ok' := fun b => b < q.p.B0) (chF hb1) (fun b _ hb => ⟨fun h => h, hb⟩) (by decide))
 have HTK1 := zH (HTK.out.go (ok' := fun b => b < q.p.B0) (chF hb1) (fun b _ hb => ⟨fun h => h, hb⟩))
 clear r1 hb1 HTS HTK hbt
 go_wp2_with fail
 clear f2 q0
 go_loopw [10, 11] (fun nv jv wr => ∃ (done todo : List Sh) (j : Nat) (aa1 : Nat → Option Addr), nv = .int .i64 (done.length : Int) ∧ jv = .int .i64 (j : Int) ∧ i < j ∧ j ≤ q.p.l.length ∧ done.length ≤ 1000 ∧ Hid (ks = done ++ todo) ∧ Hid (rest (par q.p.l) i j = yX (i + 1 + zC done) todo) ∧ Hid (Wk q wr (yH G (fun k => qB (q.p.lf k) (i + 1) d Ri r done (t.kids.take done.length))) aa1) ∧ Hid (Stp q.p aa w1 aa1 wr) ∧ Hid (Rw wr bt' #[.int .i64 t.n, .string t.s, .slice a t.kids.length cap] 57)) (fun _ jv _ => q.p.l.length - (intOf jv).toNat)
 case atStart => exact ⟨[], ks, i + 1, aa, rfl, by first | rfl | go_num, by omega, by omega, by simp, zH rfl, HRS, zH (HQ1.out.congr (fun k _ => by simp [yH, qB])), zH (Stp.below (b0 w1)), HR1⟩
 case round =>
  obtain ⟨done, todo, j, aa1, rfl, rfl, hij, hj, hdl0, HD, HR, HS, HT, HRB⟩ := hrel
  have q0 : wr.cell? ⟨q.p.bx, 0, none⟩ = some (.slice q.p.sa q.p.l.length q.p.sc) := HS.out.row.cell 0
  have q1 : wr.cell? ⟨q.p.bx, 1, none⟩ = some (.slice q.pa q.p.l.length q.pc) := HS.out.row.cell 1
  by_cases hlt : j < q.p.l.length
  ·have hjp : j < (par q.p.l).length := by omega
   obtain ⟨pb, po, hpa, hpb, hpc⟩ := HS.out.par.pos (by omega)
   have c0 := hpc _ _ (zO (par q.p.l) j hjp)
   rw [hpa] at q1
   by_cases hp : (par q.p.l)[j] = (i : Int)
   ·have hbe : ((par q.p.l)[j] != (i : Int)) = false := by simp [hp]
    have hry := zAU hjp hp
    rw [HR.out] at hry
    obtain ⟨s, qq, rfl, hjo, hr2⟩ := zAK hry
    have hjo' : j = i + 1 + zC done := by omega
    have hdl : done.length < ks.length := by have := congrArg List.length HD.out; simp at this; omega
    obtain ⟨_, hixs, hos⟩ := zAv ks (i + 1) done.length hdl HIX.out
    have hsk : ks[done.length] = s := by simp [HD.out]
    have htd : ks.take done.length = done := by rw [HD.out]; simp
    rw [htd, hsk, ← hjo'] at hixs
    rw [htd, hsk] at hos
    have hsm : s ∈ ks := by rw [HD.out]; simp
    have hsg := wM HGL.out hsm
    have hdk : done.length < t.kids.length := by rw [HKL.out]; exact hdl
    have hok := zFa HSH.out done.length hdl hdk
    rw [hsk] at hok
    have hfs : ∃ f, q.p.l[j]? = some f ∧ f.rep = s.rep := by
     obtain ⟨nm, rp, kd, kk⟩ := s
     simp only [Ix] at hixs
     exact ⟨_, hixs.1, rfl⟩
    obtain ⟨f, hf1, hf2⟩ := hfs
    have hst := (zDs hjp hp hf1).1
    rw [hf2, ← HRI.out] at hst
    obtain ⟨hjl, hje⟩ := zLS.1 hf1
    have hrep : s.rep = 0 ∨ s.rep = 1 ∨ s.rep = 2 := by
     obtain ⟨nm, rp, kd, kk⟩ := s
     simp only [zR] at hsg
     simp only [Sh.rep]
     omega
    have HNX : Hid (ks = (done ++ [s]) ++ qq) := zH (by rw [HD.out]; simp)
    have HR2 : Hid (rest (par q.p.l) i (j + 1) = yX (i + 1 + zC (done ++ [s])) qq) := zH (by
     rw [hr2, yA]; simp only [zC, Nat.add_zero, ← zLQ])
    have HLS : Hid ((done ++ [s]).length = done.length + 1) := zH (by simp)
    have HSN : Hid (∀ lf, qB lf (i + 1) d Ri r (done ++ [s]) (t.kids.take (done.length + 1)) = qB lf (i + 1) d Ri r done (t.kids.take done.length) ++ jO lf j d Ri r s t.kids[done.length]) := zH (fun lf => by
     rw [zLV hdk, zCA _ _ _ _ _ (by rw [List.length_take]; omega), ← hjo'])
    have HGX : Hid (∀ k, k < q.p.m → (yH G (fun k => qB (q.p.lf k) (i + 1) d Ri r done (t.kids.take done.length)) k).length + (jO (q.p.lf k) j d Ri r s t.kids[done.length]).length ≤ 1000000000000) := zH (fun k hk => by
     have h1 := HG.out k hk
     have h2 := zGa (q.p.lf k) d Ri r (done ++ [s]) qq t.kids (i + 1)
     rw [← HNX.out, HLS.out, HSN.out, zLP] at h2
     unfold yH
     rw [zLP]
     dsimp only
     omega)
    have HV := zH (HIH.out s hsm)
    have HNO := zH (zEn q hS hl hll s.size s (zLW _))
    have HIXS := zH hixs; have HSG := zH hsg; have HOKX := zH hok.2
    have hx50 := hok.1
    have hon : j + s.size ≤ q.p.l.length := by omega
    have hss : s.size ≤ zC ks := by omega
    obtain ⟨sb', so', hsa', hsb', hsc'⟩ := HS.out.s.pos (by omega)
    have fj := (yB q.p.l j hjl).2.1
    rw [hje, hf2] at fj
    replace fj := hsc' _ _ fj
    rw [← zLQ] at fj
    rw [hsa'] at q0
    have hts := HTS1.out.go (ok' := fun b => b < q.p.B0) HT.out.1 (fun b _ hb => ⟨HQ1.out.low hb, hb⟩) (by decide)
    have htk := HTK1.out.go (ok' := fun b => b < q.p.B0) HT.out.1 (fun b _ hb => ⟨HQ1.out.low hb, hb⟩)
    obtain ⟨tb, toff, rfl, htb, htc⟩ := hts.pos (by omega)
    obtain ⟨xa, xcap, xys, hxg, hxs, hxr⟩ := zFf htk done.length hdk
    have c1 := htc _ _ hxg
    have z2 : wr.cell? ⟨bt', 2, none⟩ = some (.slice (some ⟨tb, toff, none⟩) t.kids.length cap) := HRB.out.cell 2
    have HXS := zH hxs; have HXR := zH hxr
    have hdi : (done.length : Int) < (t.kids.length : Int) := by omega
    have HJR := zH hst
    have HRE : Hid (s.rep = s.rep) := zH rfl
    have hJl : lvR q.p.l j ≤ 1001 := by rw [hst]; unfold rmI; split <;> omega
    have hdl1 : done.length + 1 ≤ 1000 := by omega
    have HNBT := zH (nch HT.out HNB.out hbtl)
    have hbtr := HRB.out.lt
    generalize (par q.p.l)[j] = pj at *
    generalize t.kids[done.length] = x at *
    clear HRE
    generalize hre : s.rep = rp' at *
    have HRE := zH hre
    subst hp
    clear hry hr2 hjo' hdl hixs hos hsk htd hsm hsg hpc hpa hjo hok hf1 hf2 hje hts htk htc hxg hxs hxr hsc' hst hre hsa' hdk
    by_cases hx0 : x = []
    ·subst hx0
     have HGN : Hid (∀ k, k < q.p.m → (yH G (fun k => qB (q.p.lf k) (i + 1) d Ri r done (t.kids.take done.length)) k).length + (xK (q.p.lf k) j s r d).length ≤ 1000000000000) := HGX
     go_wp2_with fail
     refine (HNO.out j r d wr _ aa1 HIXS.out hon HSG.out HS.out HGN.out).mono ?_
     rintro e w2 ⟨rfl, aa2, hs2, ht2⟩
     have HS2 := zH (hs2.congr (G' := yH G (fun k => qB (q.p.lf k) (i + 1) d Ri r (done ++ [s]) (t.kids.take (done ++ [s]).length))) (fun k _ => by
      unfold yH
      dsimp only
      rw [HLS.out, HSN.out, zLT]; rfl))
     have HT2 := zH (HT.out.trans ht2)
     have HRB2 := zH (HRB.out.chg ht2.1 HNBT.out)
     clear hs2 ht2 c0 q0 q1 c1 z2 fj
     go_wp2_with fail
     go_roundw
     case rel => exact ⟨done ++ [s], qq, j + 1, aa2, by rw [HLS.out]; go_num, by go_num, by omega, by omega, by rw [HLS.out]; exact hdl1, HNX, HR2, HS2, HT2, HRB2⟩
     case measure => simp [intOf]; omega
    ·have hxl : 0 < x.length := List.length_pos_iff.2 hx0
     have hxb : ((x.length : Int) == 0) = false := beq_eq_false_iff_ne.2 (by omega)
     have HX0 := zH hx0
     clear hx0
     go_upto_if 77 with fail
     obtain ⟨D, hD⟩ : ∃ D, D = dmI rp' := ⟨_, rfl⟩
     have hDl : D ≤ 1 := by rw [hD]; unfold dmI; split <;> omega
     have HDM := zH hD
     go_cut [13] from 69 to 77 (fun v wd => v = .int .i64 (D : Int) ∧ wr = wd)
     case first =>
      rcases hrep with rfl | rfl | rfl
      ·have hDv : D = 0 := by rw [hD]; rfl
       clear hD
       subst hDv
       go_wp2_with fail
       go_meet
       case rel => exact ⟨rfl, rfl⟩
      ·have hDv : D = 1 := by rw [hD]; rfl
       clear hD
       subst hDv
       go_wp2_with fail
       go_meet
       case rel => exact ⟨rfl, rfl⟩
      ·have hDv : D = 1 := by rw [hD]; rfl
       clear hD
       subst hDv
       go_wp2_with fail
       go_meet
       case rel => exact ⟨rfl, rfl⟩
     case rest =>
      obtain ⟨rfl, hwc⟩ := hcut
      subst hwc
      clear hD c0 q0 q1 c1 z2 fj hrep
      have ED : Hid (((d : Int) + (D : Int)) = ((d + D : Nat) : Int)) := zH rfl
      obtain ⟨wo, hwo⟩ : ∃ wo : World, wo = wr := ⟨_, rfl⟩
      subst hwo
      go_wp2_with fail
      go_loopw [14] (fun kv wq => ∃ (g : Nat) (aa2 : Nat → Option Addr), kv = .int .i64 (g : Int) ∧ g ≤ x.length ∧ Hid (Wk q wq (yH (yH G (fun k => qB (q.p.lf k) (i + 1) d Ri r done (t.kids.take done.length))) (fun k => jW (q.p.lf k) j d Ri r s x g)) aa2) ∧ Hid (Stp q.p aa1 wo aa2 wq) ∧ Hid (Rw wq bt' #[.int .i64 t.n, .string t.s, .slice (some ⟨tb, toff, none⟩) t.kids.length cap] 57)) (fun kv _ => x.length - (intOf kv).toNat)
      case atStart => exact ⟨0, aa1, rfl, Nat.zero_le _, zH (HS.out.congr (fun k _ => by simp [yH, jW])), zH (Stp.below (b0 wo)), HRB⟩
      case round =>
       obtain ⟨g, aa2, rfl, hg, HS2, HT2, HRB2⟩ := hrel
       by_cases hlt2 : g < x.length
       ·have hxs1 := HXS.out.go (ok' := fun b => b < q.p.B0) HT2.out.1 (fun b _ hb => ⟨HS.out.low hb, hb⟩) (by decide)
        have hxr1 := HXR.out.go (ok' := fun b => b < q.p.B0) HT2.out.1 (fun b _ hb => ⟨HS.out.low hb, hb⟩)
        obtain ⟨xb, xo, rfl, hxb', hxc⟩ := hxs1.pos (by omega)
        obtain ⟨ya, ycap, y0, y1, y2, hyt⟩ := zAr hxr1 g hlt2
        have c0 := hxc _ _ y0; have c1 := hxc _ _ y1; have c2 := hxc _ _ y2
        rw [← zLQ] at c1 c2
        have HST := zH (HOKX.out _ (List.getElem_mem hlt2))
        have HFG : Hid (∀ lf, jW lf j d Ri r s x (g + 1) = jW lf j d Ri r s x g ++ yK lf j (d + D) (lvR q.p.l j) (if g = 0 then r else lvR q.p.l j) s x[g]) := zH (fun lf => by
         rw [zCF hlt2, HRE.out, ← HDM.out, HJR.out])
        have HGV : Hid (∀ k, k < q.p.m → (yH (yH G (fun k => qB (q.p.lf k) (i + 1) d Ri r done (t.kids.take done.length))) (fun k => jW (q.p.lf k) j d Ri r s x g) k).length + (yK (q.p.lf k) j (d + D) (lvR q.p.l j) (if g = 0 then r else lvR q.p.l j) s x[g]).length ≤ 1000000000000) := zH (fun k hk => by
         have h1 := HGX.out k hk
         have h2 := zJe (lf := q.p.lf k) (o := j) (d := d) (deep := Ri) (r := r) (s := s) HX0.out (g := g + 1) (by omega)
         rw [HFG.out, zLP] at h2
         unfold yH at h1 ⊢
         rw [zLP] at h1 ⊢
         rw [zLP]
         dsimp only at h1 ⊢
         omega)
        have HYT := zH hyt
        have hgl : (g : Int) < (x.length : Int) := by omega
        have HNB2 := zH (nch HT2.out HNBT.out hbtr)
        generalize x[g] = y at *
        clear hxs1 hxr1 hxc y0 y1 y2 hyt
        by_cases hg0 : g = 0
        ·subst hg0
         have HGV0 : Hid (∀ k, k < q.p.m → (yH (yH G (fun k => qB (q.p.lf k) (i + 1) d Ri r done (t.kids.take done.length))) (fun k => jW (q.p.lf k) j d Ri r s x 0) k).length + (yK (q.p.lf k) j (d + D) (lvR q.p.l j) r s y).length ≤ 1000000000000) := zH (fun k hk => by have := HGV.out k hk; rw [if_pos rfl] at this; exact this)
         have HFG0 : Hid (∀ lf, jW lf j d Ri r s x (0 + 1) = jW lf j d Ri r s x 0 ++ yK lf j (d + D) (lvR q.p.l j) r s y) := zH (fun lf => by rw [HFG.out, if_pos rfl])
         clear HGV HFG
         simp only [Nat.zero_mul, Nat.add_zero] at c0 c1 c2
         go_wp2_with fail
         (try rw [ED.out])
         refine (HV.out j y ya ycap r (d + D) wr _ aa2 HIXS.out hon HSG.out HS2.out HST.out HYT.out hr (by omega) HGV0.out).mono ?_
         rintro e w3 ⟨rfl, aa3, hs3, ht3⟩
         have HS3 := zH (hs3.congr (G' := yH (yH G (fun k => qB (q.p.lf k) (i + 1) d Ri r done (t.kids.take done.length))) (fun k => jW (q.p.lf k) j d Ri r s x (0 + 1))) (fun k _ => by
          unfold yH
          dsimp only
          rw [HFG0.out, ← zLT]))
         have HT3 := zH (HT2.out.trans ht3)
         have HRB3 := zH (HRB2.out.chg ht3.1 HNB2.out)
         clear hs3 ht3 c0 c1 c2
         go_wp2_with fail
         go_roundw
         case rel => exact ⟨0 + 1, aa3, by go_num, by omega, HS3, HT3, HRB3⟩
         case measure => simp [intOf]; omega
        ·have hgb : ((g : Int) == 0) = false := beq_eq_false_iff_ne.2 (by omega)
         have q3 : wr.cell? ⟨q.p.bx, 3, none⟩ = some (.slice q.ra q.p.l.length q.rc) := HS2.out.row.cell 3
         obtain ⟨rb, ro, hra, hrb, hrc⟩ := HS2.out.rep.pos (by omega)
         have cr := hrc _ _ (zO (zBL q.p.l) j (by rw [zAW]; exact hlt))
         rw [zCa] at cr
         rw [hra] at q3
         have HZ := zH (zLY q3 (zLY cr (zLY c0 (zLY c1 c2))))
         have HNR := zH (zLY (HS2.out.okch hrb) (HS2.out.low hxb'))
         have HRA := zH hra
         have HGV2 : Hid (∀ k, k < q.p.m → (yH (yH G (fun k => qB (q.p.lf k) (i + 1) d Ri r done (t.kids.take done.length))) (fun k => jW (q.p.lf k) j d Ri r s x g) k).length + (yK (q.p.lf k) j (d + D) (lvR q.p.l j) (lvR q.p.l j) s y).length ≤ 1000000000000) := zH (fun k hk => by have := HGV.out k hk; rw [if_neg hg0] at this; exact this)
         have HFG2 : Hid (∀ lf, jW lf j d Ri r s x (g + 1) = jW lf j d Ri r s x g ++ yK lf j (d + D) (lvR q.p.l j) (lvR q.p.l j) s y) := zH (fun lf => by rw [HFG.out, if_neg hg0])
         have HVC := zH (HV.out j y ya ycap (lvR q.p.l j) (d + D) wr.drew _ aa2 HIXS.out hon HSG.out (HS2.out.below (b0 wr).drew) HST.out (HYT.out.go (chF (b0 wr).drew) (fun b _ hb => ⟨fun h => h, hb⟩)) (by omega) (by omega) HGV2.out)
         generalize lvR q.p.l j = Rj at *
         clear hra hrb hrc hg0 HGV HFG
         go_upto_region 20 with fail
         clear q3 cr c0 c1 c2
         have hwa : IntKind.i64.wrap ((d : Int) + (D : Int)) = (d : Int) + (D : Int) := IntWalk.i64_in _ ⟨by omega, by omega⟩
         refine zF (fun w' => w'.cell? ⟨q.p.bx, 3, none⟩ = some (.slice (some ⟨rb, ro, none⟩) q.p.l.length q.rc) ∧ w'.cell? ⟨rb, ro + j, none⟩ = some (.int .i64 (Rj : Int)) ∧ w'.cell? ⟨xb, xo + g * 3, none⟩ = some (.int .i64 y.n) ∧ w'.cell? ⟨xb, xo + g * 3 + 1, none⟩ = some (.string y.s) ∧ w'.cell? ⟨xb, xo + g * 3 + 2, none⟩ = some (.slice ya y.kids.length ycap)) [] (by kernel_rfl) ?g27rgS (fun hHeld => ?g27rgR)
         case g27rgS => (try dsimp only); (first | exact HZ.out | exact ⟨by rw [← HRA.out]; exact hs16.row.cell 3, ht16.1.keep hHeld.2.1 HNR.out.1, ht16.1.keep hHeld.2.2.1 HNR.out.2, ht16.1.keep hHeld.2.2.2.1 HNR.out.2, ht16.1.keep hHeld.2.2.2.2 HNR.out.2⟩)
         try dsimp only at hHeld
         refine zD [0, 1, 2, 3, 4, 5, 6, 7, 8, 9, 10, 11, 12, 13, 14, 15] 1 (by kernel_rfl) (fun _ _ _ _ _ h => h) (by assumption) ?_
         iterate 16 ((apply YA.take rfl (by rfl); case hy => rintro w ⟨s0, s1, s2, s3, s4⟩; go_simp; try with_reducible rfl); try simp only [pD])
         refine YA.nil ?_
         refine zB [16] (by kernel_rfl) (by simp) ?_
         refine zA.con 16 rfl (fun K hK => ?g27ro1) ?g27rm1
         case g27rm1 => exact zA.nil
         go_simp; (try rw [ED.out]); refine HVC.out.mono ?_; rintro e w16 ⟨rfl, aa3, hs16, ht16⟩; dsimp only
         refine hK.out _ _ ?g27rs1 (fun hHeld => ?g27rt1)
         case g27rs1 => (try dsimp only); (first | exact HZ.out | exact ⟨by rw [← HRA.out]; exact hs16.row.cell 3, ht16.1.keep hHeld.2.1 HNR.out.1, ht16.1.keep hHeld.2.2.1 HNR.out.2, ht16.1.keep hHeld.2.2.2.1 HNR.out.2, ht16.1.keep hHeld.2.2.2.2 HNR.out.2⟩)
         try dsimp only at hHeld
         clear hK K
         try simp only [pD]
         refine zE (by kernel_rfl) ?_
         have HS3 := zH (hs16.congr (G' := yH (yH G (fun k => qB (q.p.lf k) (i + 1) d Ri r done (t.kids.take done.length))) (fun k => jW (q.p.lf k) j d Ri r s x (g + 1))) (fun k _ => by
          unfold yH
          dsimp only
          rw [HFG2.out, ← zLT]))
         have HT3 := zH (HT2.out.trans ((Stp.below (p := q.p) (aa := aa2) (w := wr) (w' := wr.drew) (b0 wr).drew).trans ht16))
         have HRB3 := zH ((HRB2.out.drew).chg ht16.1 HNB2.out)
         clear hs16 ht16 hHeld hwa
         go_wp2_with fail
         go_roundw
         case rel => exact ⟨g + 1, aa3, by go_num, by omega, HS3, HT3, HRB3⟩
         case measure => simp [intOf]; omega
       ·obtain rfl : g = x.length := by omega
        have HS3 := zH (HS2.out.congr (G' := yH G (fun k => qB (q.p.lf k) (i + 1) d Ri r (done ++ [s]) (t.kids.take (done ++ [s]).length))) (fun k _ => by
         unfold yH
         dsimp only
         rw [zBw HX0.out, HLS.out, HSN.out, zLT]))
        have HT3 := zH (HT.out.trans HT2.out)
        go_wp2_with fail
        go_roundw
        case rel => exact ⟨done ++ [s], qq, j + 1, aa2, by rw [HLS.out]; go_num, by go_num, by omega, by omega, by rw [HLS.out]; exact hdl1, HNX, HR2, HS3, HT3, HRB2⟩
        case measure => simp [intOf]; omega
   ·have hbe : ((par q.p.l)[j] != (i : Int)) = true := by simp [hp]
    have HR2 : Hid (rest (par q.p.l) i (j + 1) = yX (i + 1 + zC done) todo) := zH (by rw [← zBK hjp hp]; exact HR.out)
    generalize (par q.p.l)[j] = pj at *
    clear hpc hpa
    go_wp2_with fail
    go_roundw
    case rel => exact ⟨done, todo, j + 1, aa1, rfl, by go_num, by omega, by omega, hdl0, HD, HR2, HS, HT, HRB⟩
    case measure => simp [intOf]; omega
  ·obtain rfl : j = q.p.l.length := by omega
   have hre := zAV (P := par q.p.l) (v := (i : Int)) (i := q.p.l.length) (by omega)
   rw [HR.out] at hre
   obtain rfl := zBv hre
   have hd' : ks = done := by rw [HD.out]; simp
   subst hd'
   clear hre
   go_wp2_with fail
   refine bodyPost_end (v := .tuple #[]) (by simp [results, Try.results25, go_sem]) rfl ?_
   refine ⟨rfl, aa1, HS.out.congr (fun k hk => ?_), (Stp.below HB1.out).trans HT.out⟩
   unfold yH
   dsimp only
   rw [HE.out, zLU (by rw [HKL.out]; exact zLW _)]
def tyB (j : Nat) : TypeId := if j = 2 then 42 else 3
def szB (j : Nat) : Nat := if j = 2 then 3 else 1
def nB (i m : Nat) (j : Nat) : Nat := if j = 2 then m else i
def xB (l : List Fl) (i m : Nat) (j : Nat) : List Value := if j = 0 then zQ ((qO l).take i) else if j = 1 then zQ ((zBL l).take i) else zLR (m * 3) (.slice none 0 0)
theorem qI {z : List Int} {i : Nat} (h : i < z.length) : zQ (z.take (i + 1)) = zQ (z.take i) ++ [.int .i64 z[i]] := by
 rw [zLV h, yT]
theorem zEB (l : List Fl) (i : Nat) (h : i < (qO l).length) : (qO l)[i] = if (flN l i).kind = 0 then -1 else ((zG l i).length : Int) := by simp [qO]
theorem zLJ (m : Nat) (v : Value) : zLR ((m + 1) * 3) v = zLR (m * 3) v ++ [v, v, v] := by
 rw [show (m + 1) * 3 = m * 3 + 3 by omega, ← List.replicate_append_replicate]; rfl
theorem zFv {P : Nat → Prop} (h0 : P 0) (h1 : P 1) (h2 : P 2) (j : Nat) (hj : j < 3) : P j := by
 have : j = 0 ∨ j = 1 ∨ j = 2 := by omega
 rcases this with rfl | rfl | rfl
 ·exact h0
 ·exact h1
 ·exact h2
theorem zGn {l : List Fl} {i : Nat} (hi : i < l.length) {B : Nat} {w : World} {aa cc : _} {a0 a1 a2 : Option Addr} {c0 c1 c2 m : Nat} (hm : m = (zG l (i + 1)).length)
  (h : OW B w 3 tyB szB (upd (upd (upd aa 1 a1) 0 a0) 2 a2) (upd (upd (upd (nB i (zG l i).length) 1 (i + 1)) 0 (i + 1)) 2 m) (upd (upd (upd cc 1 c1) 0 c0) 2 c2)
   (upd (upd (upd (xB l i (zG l i).length) 1 (zQ ((zBL l).take i) ++ [.int .i64 (lvR l i : Int)])) 0 (zQ ((qO l).take i) ++ [.int .i64 (if (flN l i).kind = 0 then -1 else ((zG l i).length : Int))])) 2 (zLR (m * 3) (.slice none 0 0)))) :
  OW B w 3 tyB szB (upd (upd (upd aa 1 a1) 0 a0) 2 a2) (nB (i + 1) (zG l (i + 1)).length) (upd (upd (upd cc 1 c1) 0 c0) 2 c2) (xB l (i + 1) (zG l (i + 1)).length) := by
 subst hm
 refine h.congr (fun _ _ => rfl) (zFv rfl rfl rfl) (fun _ _ => rfl) (zFv ?_ ?_ rfl)
 ·show zQ ((qO l).take i) ++ _ = zQ ((qO l).take (i + 1))
  rw [qI (by rw [qU]; exact hi), zEB]
 ·show zQ ((zBL l).take i) ++ _ = zQ ((zBL l).take (i + 1))
  rw [qI (by rw [zAW]; exact hi), zCa]
def zLO (l : List Fl) (sa : Option Addr) (sc : Nat) (w : World) (e : Ending) (w' : World) : Prop :=
 ∃ (q : WP) (aa : Nat → Option Addr), e = .returned (.pointer (some ⟨q.p.bx, 0, none⟩)) ∧ q.p.l = l ∧ q.p.lfs = zG l l.length ∧ q.p.B0 = w.heap.size ∧ q.p.sa = sa ∧ q.p.sc = sc ∧ q.mc ≤ maxLen ∧ Wk q w' (fun _ => []) aa ∧ Below w.heap.size w w'
theorem zKm (sa : Option Addr) (sc : Nat) (l : List Fl) (w : World) (hs : Sl (fun b => b < w.heap.size) w 4 sa l.length sc (fls l)) (hn : l.length ≤ 1000) (hkid : ∀ x ∈ l, x.kids ≤ 1000) (hrp : ∀ x ∈ l, x.rep = 0 ∨ x.rep = 1 ∨ x.rep = 2) (hlp : 0 < (zG l l.length).length) :
  Calls Try.prog 24 #[.slice sa l.length sc] w (zLO l sa sc w) := by
 obtain ⟨ii, hii, hz0i, hz1i, hz2i⟩ := info_parts jR
 obtain ⟨ic, hic, hz0c, hz1c, hz2c⟩ := info_parts zCD
 have HPL := zH (zW l)
 have HS := zH hs; have HK := zH hkid; have HRP := zH hrp
 clear hs hkid hrp
 go_enter Try.func24, Try.ntmps24
 go_wp2_with fail
 refine (zBu sa l.length sc l w HS.out hn HK.out).mono ?_
 rintro e w1 ⟨aP, cP, rfl, oP, hb1⟩
 have HP := zH oP
 have HB1 := zH hb1
 clear oP hb1
 go_upto_region 2 with fail
 refine zAC (fun w2 hw2 => ?_)
 have hb2 : Below w1.heap.size w1 w2 := by rw [hw2]; exact ba (b0 w1) _
 have rX : Rw w2 w1.heap.size #[.slice sa l.length sc, .slice aP l.length cP, .slice none 0 0, .slice none 0 0, .slice none 0 0] 71 := by rw [hw2]; exact Rw.new w1 _ _
 clear hw2
 have RX := zH rX; have HB2 := zH hb2
 obtain ⟨U, hU⟩ : ∃ U, U = w1.heap.size := ⟨_, rfl⟩
 rw [← hU] at RX ⊢
 have hUl : U < w2.heap.size := RX.out.lt
 have hU2 : w.heap.size ≤ U := by rw [hU]; exact HB1.out.size
 have HUE := zH hU
 clear rX hb2 hU
 go_wp2_with fail
 go_loopw [4, 5] (fun nv iv wr => ∃ (i : Nat) (aa : Nat → Option Addr) (cc : Nat → Nat), nv = .int .i64 ((zG l i).length : Int) ∧ iv = .int .i64 (i : Int) ∧ i ≤ l.length ∧ Hid (OW w2.heap.size wr 3 tyB szB aa (nB i (zG l i).length) cc (xB l i (zG l i).length)) ∧ Hid (Rw wr U #[.slice sa l.length sc, .slice aP l.length cP, .slice (aa 0) i (cc 0), .slice (aa 1) i (cc 1), .slice (aa 2) (zG l i).length (cc 2)] 71) ∧ Hid (Chg (fun b => b = U) w2 wr)) (fun _ iv _ => l.length - (intOf iv).toNat)
 case atStart => exact ⟨0, fun _ => none, fun _ => 0, rfl, rfl, Nat.zero_le _, zH ((OW.nil _ _ _ _ _).congr (fun _ _ => rfl) (zFv rfl rfl rfl) (fun _ _ => rfl) (zFv rfl rfl rfl)), RX, zH (Chg.refl _ _)⟩
 case round =>
  obtain ⟨i, aa, cc, rfl, rfl, hi, HO, RB, HC⟩ := hrel
  have hszr := HC.out.size
  have hbWr : Below w1.heap.size w1 wr := Chg.bt HB2.out HC.out (fun b hb e => by have e' : b = U := e; have := HUE.out; omega)
  have hlf := yW (l := l) (m := i)
  by_cases hil : i < l.length
  ·have HSW := zH (slb HS.out (bt HB1.out hbWr))
   have HPW := zH ((HP.out.own.below hbWr).sl.mono (ok' := fun b => b < wr.heap.size) (fun b hb _ => hb) (by decide))
   obtain ⟨bs, os, rfl, hbs, hsc⟩ := HSW.out.pos (by omega)
   obtain ⟨bp, op, rfl, hbp, hpc⟩ := HPW.out.pos (by omega)
   have HSC := zH hsc; have HPC := zH hpc
   have x1 : wr.cell? ⟨U, 1, none⟩ = some (.slice (some ⟨bp, op, none⟩) l.length cP) := RB.out.cell 1
   have a2 := hsc _ _ (yB l i hil).2.2.1
   rw [← zLQ] at a2
   have HRL : Hid (0 + zAj l (yD (par l) (i : Int)) = lvR l i) := zH (by rw [yF]; simp [lvR])
   have hlR : lvR l i ≤ 1000 := by have := zAE l (Go.Shr.chain (par l) i); have := xJ (par l) i; unfold lvR; omega
   clear hsc hpc
   obtain ⟨wo, hwo⟩ : ∃ wo : World, wo = wr := ⟨_, rfl⟩
   subst hwo
   go_wp2_with fail
   go_loopw [6, 7] (fun rv kv wq => ∃ (r : Nat) (k : Int), rv = .int .i64 (r : Int) ∧ kv = .int .i64 k ∧ -1 ≤ k ∧ k ≤ (i : Int) ∧ Hid (r + zAj l (yD (par l) k) = lvR l i) ∧ wo = wq) (fun _ kv _ => (intOf kv + 1).toNat)
   case atStart => exact ⟨0, (i : Int), rfl, rfl, by omega, Int.le_refl _, HRL, rfl⟩
   case round =>
    obtain ⟨r, k, rfl, rfl, hk1, hk2, HCN, rfl⟩ := hrel
    by_cases hk0 : 0 ≤ k
    ·obtain ⟨K, rfl⟩ : ∃ K : Nat, k = (K : Int) := ⟨k.toNat, by omega⟩
     have hKl : K < l.length := by omega
     have hKp : K < (par l).length := by rw [HPL.out]; exact hKl
     have b1 := HSC.out _ _ (yB l K hKl).2.1
     rw [← zLQ] at b1
     have p0 := HPC.out _ _ (zO (par l) K hKp)
     have hqb := yI l K hKp
     have hcn : r + ((if l[K].rep = 2 then 1 else 0) + zAj l (yD (par l) (par l)[K])) = lvR l i := by
      have h1 := HCN.out
      rw [yF, xU (fun j hj => yI l j hj) hKp, jI, qS hKl] at h1
      exact h1
     generalize (par l)[K] = pk at *
     generalize hxr : l[K].rep = xr at *
     clear hxr
     by_cases hx2 : xr = 2
     ·have hbe : (xr == 2) = true := beq_iff_eq.2 hx2
      rw [if_pos hx2] at hcn
      have HCN2 : Hid (r + 1 + zAj l (yD (par l) pk) = lvR l i) := zH (by omega)
      have hrl : r + 1 ≤ 1000 := by omega
      clear hx2 hcn
      go_wp2_with fail
      go_roundw
      case rel => exact ⟨r + 1, pk, by go_num, rfl, hqb.1, by omega, HCN2, by first | rfl | trivial⟩
      case measure => simp [intOf]; omega
     ·have hbe : (xr == 2) = false := beq_eq_false_iff_ne.2 hx2
      rw [if_neg hx2] at hcn
      have HCN2 : Hid (r + zAj l (yD (par l) pk) = lvR l i) := zH (by omega)
      clear hx2 hcn
      go_wp2_with fail
      go_roundw
      case rel => exact ⟨r, pk, rfl, rfl, hqb.1, by omega, HCN2, by first | rfl | trivial⟩
      case measure => simp [intOf]; omega
    ·have hcn := HCN.out
     rw [qC _ (by omega)] at hcn
     have hr0 : r = lvR l i := by simpa [zAj] using hcn
     clear hcn HCN
     subst hr0
     have x3 : wo.cell? ⟨U, 3, none⟩ = some (.slice (aa 1) i (cc 1)) := RB.out.cell 3
     have O1 : Own w2.heap.size wo 3 1 (aa 1) i (cc 1) (zQ ((zBL l).take i)) := HO.out.own 1 (by decide)
     have HO1 := zH O1
     clear O1
     have tok1 : True := trivial
     go_upto_region 13 with (first
      | (at_builtin; have _t := tok1; clear tok1; clear _t; refine zI (B := w2.heap.size) rfl _ _ _ _ rfl ii (.int .i64 0) 8 Try.underlying22 hii hz0i hz1i hz2i rfl rfl (HO1.out.alloc _) _ rfl _ _ (zCj (e' := 3) Try.underlying22 wo (.int .i64 (lvR l i : Int)) 3 rfl) (by simp only [maxLen]; omega) (by omega) (by first | omega | (simp; omega) | simp) ?_; intro a5 cap5 w5 ho5 hc5 hn5); (have rb5 := (RB.out.alloc (.cells #[.int .i64 (lvR l i : Int)] 3)).chg hc5 (fun h => by have := h.2.1; omega)); (have y3 := rb5.cell 3); (have qf := rb5.frozen); (have ql := rb5.lt); (simp only [pG] at y3)
      | fail)
     have hbA : Below wo.heap.size wo (wo.alloc (.cells #[.int .i64 (lvR l i : Int)] 3)) := ba (b0 wo) _
     have hU3 : ∀ g, w2.heap.size ≤ g → g < w5.heap.size → ¬ (fun b => b = U) g := fun g hg _ he => by have he' : g = U := he; omega
     have how6 := ((HO.out.below hbA).push (j := 1) (by decide) (zLX _) ho5 hc5 hn5).chg ((Chg.refl (fun b => b = U) w5).setCell (p := ⟨U, 3, none⟩) (.inr rfl) (.slice a5 (i + 1) cap5)) hU3
     have rb6 := rb5.set 3 (.slice a5 (i + 1) cap5)
     have hc6 := ((HC.out.alloc (.cells #[.int .i64 (lvR l i : Int)] 3)).trans hc5 (fun g hg h => by have := h.2.1; omega)).setCell (p := ⟨U, 3, none⟩) (.inr rfl) (.slice a5 (i + 1) cap5)
     clear qf ql y3 ho5 hc5 hn5 rb5 x1 x3 HRL
     refine zAC (fun w6 hw6 => ?_)
     rw [← hw6] at how6 rb6 hc6
     clear hw6 hU3
     replace rb6 : Rw w6 U #[.slice (some ⟨bs, os, none⟩) l.length sc, .slice (some ⟨bp, op, none⟩) l.length cP, .slice (aa 0) i (cc 0), .slice a5 (i + 1) cap5, .slice (aa 2) (zG l i).length (cc 2)] 71 := by simpa using rb6
     have HO6 := zH how6; have RB6 := zH rb6; have HC6 := zH hc6
     have hszr6 := hc6.size
     have hbW6 : Below w.heap.size w w6 := bt HB1.out (Chg.bt HB2.out hc6 (fun b hb e => by have e' : b = U := e; have := HUE.out; omega))
     have HBW6 := zH hbW6
     clear how6 rb6 hc6 a2
     have hs6 := slb HS.out hbW6
     obtain ⟨_, _, hse, _, hsc6⟩ := hs6.pos (by omega)
     cases hse
     have a2 := hsc6 _ _ (yB l i hil).2.2.1
     rw [← zLQ] at a2
     have x2 : w6.cell? ⟨U, 2, none⟩ = some (.slice (aa 0) i (cc 0)) := RB6.out.cell 2
     have HO0 : Hid (Own w2.heap.size w6 3 1 (aa 0) i (cc 0) (zQ ((qO l).take i))) := zH (HO6.out.own 0 (by decide))
     have HKD : Hid ((flN l i).kind = l[i].kind) := zH (by rw [qS hil])
     generalize l[i].kind = kd at *
     have tok2 : True := trivial
     clear hsc6 hs6 hbW6
     by_cases hk0' : kd = 0
     ·have hkb : (kd == 0) = true := beq_iff_eq.2 hk0'
      have HNX : Hid ((zG l (i + 1)).length = (zG l i).length) := zH (by rw [jC (by rw [HKD.out]; exact hk0')])
      have HNK : Hid ((flN l i).kind = 0) := zH (by rw [HKD.out]; exact hk0')
      clear hk0'
      go_wp2_with (first
       | (at_builtin; have _t := tok2; clear tok2; clear _t; refine zI (B := w2.heap.size) rfl _ _ _ _ rfl ii (.int .i64 0) 8 Try.underlying22 hii hz0i hz1i hz2i rfl rfl (HO0.out.alloc _) _ rfl _ _ (zCj (e' := 3) Try.underlying22 w6 (.int .i64 (-1)) 3 rfl) (by simp only [maxLen]; omega) (by omega) (by first | omega | (simp; omega) | simp) ?_; intro a7 cap7 w7 ho7 hc7 hn7); (have rb7 := (RB6.out.alloc (.cells #[.int .i64 (-1)] 3)).chg hc7 (fun h => by have := h.2.1; omega)); (have y3 := rb7.cell 2); (have qf := rb7.frozen); (have ql := rb7.lt); (simp only [pG] at y3)
       | fail)
      have hbA7 : Below w6.heap.size w6 (w6.alloc (.cells #[.int .i64 (-1)] 3)) := ba (b0 w6) _
      have hU7 : ∀ g, w2.heap.size ≤ g → g < w7.heap.size → ¬ (fun b => b = U) g := fun g hg _ he => by have he' : g = U := he; omega
      have how8 := ((HO6.out.below hbA7).push (j := 0) (by decide) (zLX _) ho7 hc7 hn7).chg ((Chg.refl (fun b => b = U) w7).setCell (p := ⟨U, 2, none⟩) (.inr rfl) (.slice a7 (i + 1) cap7)) hU7
      have rb8 := rb7.set 2 (.slice a7 (i + 1) cap7)
      have hc8 := ((HC6.out.alloc (.cells #[.int .i64 (-1)] 3)).trans hc7 (fun g hg h => by have := h.2.1; omega)).setCell (p := ⟨U, 2, none⟩) (.inr rfl) (.slice a7 (i + 1) cap7)
      clear qf ql y3 ho7 hc7 hn7 rb7 a2 x2
      have hnxt := zGn (aa := aa) (cc := cc) (a0 := a7) (a1 := a5) (a2 := aa 2) (c0 := cap7) (c1 := cap5) (c2 := cc 2) (m := (zG l i).length) hil HNX.out.symm (how8.congr (fun j _ => wU _ _ _ (by rw [zL _ _ (by decide), zL _ _ (by decide)]) j) (fun j _ => wU _ _ _ (by rw [zL _ _ (by decide), zL _ _ (by decide)]; rfl) j) (fun j _ => wU _ _ _ (by rw [zL _ _ (by decide), zL _ _ (by decide)]) j) (fun j _ => by rw [if_pos HNK.out]; exact wU _ _ _ (by rw [zL _ _ (by decide), zL _ _ (by decide)]; rfl) j))
      have hrow : Rw (w7.setCell ⟨U, 2, none⟩ (.slice a7 (i + 1) cap7)) U #[.slice (some ⟨bs, os, none⟩) l.length sc, .slice (some ⟨bp, op, none⟩) l.length cP, .slice (upd (upd (upd aa 1 a5) 0 a7) 2 (aa 2) 0) (i + 1) (upd (upd (upd cc 1 cap5) 0 cap7) 2 (cc 2) 0), .slice (upd (upd (upd aa 1 a5) 0 a7) 2 (aa 2) 1) (i + 1) (upd (upd (upd cc 1 cap5) 0 cap7) 2 (cc 2) 1), .slice (upd (upd (upd aa 1 a5) 0 a7) 2 (aa 2) 2) (zG l (i + 1)).length (upd (upd (upd cc 1 cap5) 0 cap7) 2 (cc 2) 2)] 71 := by rw [HNX.out]; simpa [upd] using rb8
      have HN := zH hnxt; have HR := zH hrow; have HC8 := zH hc8
      clear hnxt hrow hc8 how8 rb8 hU7
      go_roundw
      case rel => exact ⟨i + 1, _, _, by rw [HNX.out], by go_num, by omega, HN, HR, HC8⟩
      case measure => simp [intOf]; omega
     ·have hkb : (kd == 0) = false := beq_eq_false_iff_ne.2 hk0'
      have HNX : Hid ((zG l (i + 1)).length = (zG l i).length + 1) := zH (by rw [xQ (by rw [HKD.out]; exact hk0')]; simp)
      have HNK : Hid (¬ (flN l i).kind = 0) := zH (by rw [HKD.out]; exact hk0')
      clear hk0'
      go_upto_region 16 with (first
       | (at_builtin; have _t := tok2; clear tok2; clear _t; refine zI (B := w2.heap.size) rfl _ _ _ _ rfl ii (.int .i64 0) 8 Try.underlying22 hii hz0i hz1i hz2i rfl rfl (HO0.out.alloc _) _ rfl _ _ (zCj (e' := 3) Try.underlying22 w6 (.int .i64 ((zG l i).length : Int)) 3 rfl) (by simp only [maxLen]; omega) (by omega) (by first | omega | (simp; omega) | simp) ?_; intro a7 cap7 w7 ho7 hc7 hn7); (have rb7 := (RB6.out.alloc (.cells #[.int .i64 ((zG l i).length : Int)] 3)).chg hc7 (fun h => by have := h.2.1; omega)); (have y3 := rb7.cell 2); (have qf := rb7.frozen); (have ql := rb7.lt); (simp only [pG] at y3)
       | fail)
      have hbA7 : Below w6.heap.size w6 (w6.alloc (.cells #[.int .i64 ((zG l i).length : Int)] 3)) := ba (b0 w6) _
      have hU7 : ∀ g, w2.heap.size ≤ g → g < w7.heap.size → ¬ (fun b => b = U) g := fun g hg _ he => by have he' : g = U := he; omega
      have how8 := ((HO6.out.below hbA7).push (j := 0) (by decide) (zLX _) ho7 hc7 hn7).chg ((Chg.refl (fun b => b = U) w7).setCell (p := ⟨U, 2, none⟩) (.inr rfl) (.slice a7 (i + 1) cap7)) hU7
      have rb8 := rb7.set 2 (.slice a7 (i + 1) cap7)
      have hc8 := ((HC6.out.alloc (.cells #[.int .i64 ((zG l i).length : Int)] 3)).trans hc7 (fun g hg h => by have := h.2.1; omega)).setCell (p := ⟨U, 2, none⟩) (.inr rfl) (.slice a7 (i + 1) cap7)
      clear qf ql y3 ho7 hc7 hn7 rb7 a2 x2 hU7
      refine zAC (fun w8 hw8 => ?_)
      rw [← hw8] at how8 rb8 hc8
      clear hw8
      replace rb8 : Rw w8 U #[.slice (some ⟨bs, os, none⟩) l.length sc, .slice (some ⟨bp, op, none⟩) l.length cP, .slice a7 (i + 1) cap7, .slice a5 (i + 1) cap5, .slice (aa 2) (zG l i).length (cc 2)] 71 := by simpa using rb8
      have HO8 := zH how8; have RB8 := zH rb8; have HC8 := zH hc8
      have hszr8 := hc8.size
      have x4 : w8.cell? ⟨U, 4, none⟩ = some (.slice (aa 2) (zG l i).length (cc 2)) := rb8.cell 4
      have HO2 : Hid (Own w2.heap.size w8 42 3 (aa 2) (zG l i).length (cc 2) (zLR ((zG l i).length * 3) (.slice none 0 0))) := zH (how8.own 2 (by decide))
      clear how8 rb8 hc8
      have tok3 : True := trivial
      go_wp2_with (first
       | (at_builtin; have _t := tok3; clear tok3; clear _t; refine zI (B := w2.heap.size) rfl _ _ _ _ rfl ic (.agg #[.slice none 0 0, .slice none 0 0, .slice none 0 0]) 72 Try.underlying30 hic hz0c hz1c hz2c rfl rfl (HO2.out.alloc _) _ rfl _ _ (zP (e' := 42) Try.underlying30 w8 #[.slice none 0 0, .slice none 0 0, .slice none 0 0] 42 1 3 rfl (by simp [Value.oneCell'])) (by simp only [maxLen]; omega) (by omega) (by first | omega | (simp; omega) | simp) ?_; intro a9 cap9 w9 ho9 hc9 hn9); (have rb9 := (RB8.out.alloc (.cells #[.slice none 0 0, .slice none 0 0, .slice none 0 0] 42)).chg hc9 (fun h => by have := h.2.1; omega)); (have y4 := rb9.cell 4); (have qf := rb9.frozen); (have ql := rb9.lt); (simp only [pG] at y4)
       | fail)
      have hbA9 : Below w8.heap.size w8 (w8.alloc (.cells #[.slice none 0 0, .slice none 0 0, .slice none 0 0] 42)) := ba (b0 w8) _
      have hU9 : ∀ g, w2.heap.size ≤ g → g < w9.heap.size → ¬ (fun b => b = U) g := fun g hg _ he => by have he' : g = U := he; omega
      have how10 := ((HO8.out.below hbA9).push (j := 2) (by decide) (zLX _) ho9 hc9 hn9).chg ((Chg.refl (fun b => b = U) w9).setCell (p := ⟨U, 4, none⟩) (.inr rfl) (.slice a9 ((zG l i).length + 1) cap9)) hU9
      have rb10 := rb9.set 4 (.slice a9 ((zG l i).length + 1) cap9)
      have hc10 := ((HC8.out.alloc (.cells #[.slice none 0 0, .slice none 0 0, .slice none 0 0] 42)).trans hc9 (fun g hg h => by have := h.2.1; omega)).setCell (p := ⟨U, 4, none⟩) (.inr rfl) (.slice a9 ((zG l i).length + 1) cap9)
      clear qf ql y4 ho9 hc9 hn9 rb9 x4 hU9
      have hnxt := zGn (aa := aa) (cc := cc) (a0 := a7) (a1 := a5) (a2 := a9) (c0 := cap7) (c1 := cap5) (c2 := cap9) (m := (zG l i).length + 1) hil HNX.out.symm (how10.congr (fun _ _ => rfl) (fun _ _ => rfl) (fun _ _ => rfl) (fun j _ => by rw [if_neg HNK.out, zLJ]))
      have hrow : Rw (w9.setCell ⟨U, 4, none⟩ (.slice a9 ((zG l i).length + 1) cap9)) U #[.slice (some ⟨bs, os, none⟩) l.length sc, .slice (some ⟨bp, op, none⟩) l.length cP, .slice (upd (upd (upd aa 1 a5) 0 a7) 2 a9 0) (i + 1) (upd (upd (upd cc 1 cap5) 0 cap7) 2 cap9 0), .slice (upd (upd (upd aa 1 a5) 0 a7) 2 a9 1) (i + 1) (upd (upd (upd cc 1 cap5) 0 cap7) 2 cap9 1), .slice (upd (upd (upd aa 1 a5) 0 a7) 2 a9 2) (zG l (i + 1)).length (upd (upd (upd cc 1 cap5) 0 cap7) 2 cap9 2)] 71 := by rw [HNX.out]; simpa [upd] using rb10
      have HN := zH hnxt; have HR := zH hrow; have HC10 := zH hc10
      clear hnxt hrow hc10 how10 rb10
      go_roundw
      case rel => exact ⟨i + 1, _, _, by rw [HNX.out]; go_num, by go_num, by omega, HN, HR, HC10⟩
      case measure => simp [intOf]; omega
  ·obtain rfl : i = l.length := by omega
   obtain ⟨wo, hwo⟩ : ∃ wo : World, wo = wr := ⟨_, rfl⟩
   subst hwo
   go_wp2_with fail
   go_ret
   have hO2 : Own w2.heap.size wo 42 3 (aa 2) (zG l l.length).length (cc 2) (zLR ((zG l l.length).length * 3) (.slice none 0 0)) := HO.out.own 2 (by decide)
   obtain ⟨g, cur, hga, hgB, hgc, hgs, hgt⟩ := hO2.row.resolve_left (by have := hO2.le; omega)
   have hO0 : Own w2.heap.size wo 3 1 (aa 0) l.length (cc 0) (zQ ((qO l).take l.length)) := HO.out.own 0 (by decide)
   have hO1 : Own w2.heap.size wo 3 1 (aa 1) l.length (cc 1) (zQ ((zBL l).take l.length)) := HO.out.own 1 (by decide)
   rw [zLU (by rw [qU]; exact zLW _)] at hO0
   rw [zLU (by rw [zAW]; exact zLW _)] at hO1
   have hgl : g < wo.heap.size := (HO.out.lt 2 g (by decide) (by rw [hga]; exact ⟨_, _, rfl⟩)).1
   have hue := HUE.out
   have hbW : Below w.heap.size w wo := bt HB1.out hbWr
   have hz1 := HB1.out.size
   have hrow := RB.out
   rw [hga] at hrow
   refine ⟨⟨⟨U, 0, 0, g, wo.heap.size, w.heap.size, sa, sc, l, zG l l.length⟩, cc 2, aP, cP, aa 0, cc 0, aa 1, cc 1⟩, fun _ => none, rfl, rfl, rfl, rfl, rfl, rfl, hO2.max, ⟨hrow, ?_, ?_, ?_, ?_, ⟨cur, fun _ => 0, hgc, hgs, hO2.le, fun j hj => ?_, ?_, hgl⟩, ⟨show U < wo.heap.size by omega, hgl, show U ≠ g by omega, hU2, show w.heap.size ≤ g by omega, zLW _⟩⟩, hbW⟩
   ·exact HS.out.go (ok' := _) (chB (S := fun _ => False) hbW) (fun b hb _ => ⟨fun h => h, show b < wo.heap.size by omega, show b ≠ U by omega, show b ≠ g by omega⟩) (by decide)
   ·exact HP.out.own.sl.go (ok' := _) (chB (S := fun _ => False) hbWr) (fun b hb _ => ⟨fun h => h, show b < wo.heap.size by omega, show b ≠ U by omega, show b ≠ g by omega⟩) (by decide)
   ·exact hO0.sl.mono (fun b hb h => ⟨hb, show b ≠ U by have := h.1; omega, fun he => HO.out.dis 0 2 b (by decide) (by decide) (by decide) h.2.1 (by rw [hga]; have he' : b = g := he; exact ⟨_, _, by rw [he']⟩)⟩) (by decide)
   ·exact hO1.sl.mono (fun b hb h => ⟨hb, show b ≠ U by have := h.1; omega, fun he => HO.out.dis 1 2 b (by decide) (by decide) (by decide) h.2.1 (by rw [hga]; have he' : b = g := he; exact ⟨_, _, by rw [he']⟩)⟩) (by decide)
   ·have hj' : j < (zG l l.length).length * 3 := hj
    have hz : nC (fun _ => []) j = 0 := by unfold nC; split <;> rfl
    have h1 : (cur.toList.take ((zG l l.length).length * 3))[j]? = some (.slice none 0 0) := by rw [hgt, List.getElem?_replicate, if_pos hj']
    rw [List.getElem?_take, if_pos hj'] at h1
    rw [hz]
    simpa using h1
   ·refine (OW.nil _ _ _ _ _).congr (fun _ _ => rfl) (fun j _ => ?_) (fun _ _ => rfl) (fun j _ => ?_)
    ·unfold nC; split <;> rfl
    ·unfold xC; split
     ·rfl
     ·split <;> rfl
end Go.Proofs.Ytjbkjfefjhbolaa
