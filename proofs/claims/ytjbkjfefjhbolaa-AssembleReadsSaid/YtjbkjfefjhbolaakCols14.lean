import Derived.Test.YtjbkjfefjhbolaakOwn14
import Derived.Test.YtjbkjfefjhbolaakOf14
import Derived.Test.YtjbkjfefjhbolaakTree2
set_option linter.all false
open Nat renaming zero_le → zLP
namespace Go.Proofs.Ytjbkjfefjhbolaa
open Go.RowKit Go.Shr
set_option maxHeartbeats 1000000 in
set_option maxRecDepth 100000 in
theorem zLf {l : List Fl} {sh : Sh} {W : Nat → List UInt8} (hS : Sch l sh) (hw : Wy l W) (hrp : ∀ x ∈ l, x.rep = 0 ∨ x.rep = 1 ∨ x.rep = 2) (rows : List Tr) (sa ra : Option Addr) (sc rc : Nat) (ys : List Value) (w : World) (hs : Sl (fun b => b < w.heap.size) w 4 sa l.length sc (fls l))
  (hr : Sl (fun b => b < w.heap.size) w 3 ra rows.length rc ys) (hrow : zZ (fun b => b < w.heap.size) w rows ys) :
  Calls Try.prog 47 #[.slice sa l.length sc, .slice ra rows.length rc] w (zKM l sh rows w) := by
 have hn := hw.len
 have hrm : rows.length ≤ maxLen := Nat.le_trans hr.le hr.max
 unfold maxLen at hrm
 have HS := zH hs; have HSC := zH hS; have HW := zH hw; have HRP := zH hrp; have HR := zH hr; have HROW := zH hrow
 clear hs hS hw hrp hr hrow
 go_enter Try.func47, Try.ntmps47
 go_wp2_with fail
 refine wp_scope_jumps 0 (fun a' w' => (fun u : Nat → Value => a' = { tmps := List.toArray (((u 0)) :: ((u 1)) :: ((u 2)) :: ((u 3)) :: ((u 4)) :: ((u 5)) :: ((u 6)) :: ((u 7)) :: ((u 8)) :: ((u 9)) :: ((u 10)) :: ((u 11)) :: ((u 12)) :: ((u 13)) :: ((u 14)) :: ((u 15)) :: ((u 16)) :: ((u 17)) :: ((u 18)) :: ((u 19)) :: ((u 20)) :: ((u 21)) :: ((u 22)) :: ((u 23)) :: ((u 24)) :: ((u 25)) :: ((u 26)) :: ((u 27)) :: ((u 28)) :: ((u 29)) :: ((u 30)) :: ((u 31)) :: ((u 32)) :: ((u 33)) :: ((u 34)) :: ((u 35)) :: ((u 36)) :: ((u 37)) :: ((u 38)) :: ((u 39)) :: ((u 40)) :: ((u 41)) :: ((u 42)) :: ((u 43)) :: ((u 44)) :: ((u 45)) :: ((u 46)) :: ((u 47)) :: ((u 48)) :: ((u 49)) :: ((u 50)) :: ((u 51)) :: ((u 52)) :: ((u 53)) :: ((u 54)) :: ((u 55)) :: ((u 56)) :: ((u 57)) :: ((u 58)) :: ((u 59)) :: ((u 60)) :: ((u 61)) :: ((u 62)) :: ((u 63)) :: ((u 64)) :: ((u 65)) :: ((u 66)) :: ((u 67)) :: ((u 68)) :: []), defers := [] }) (fun k => a'.tmps.getD k undef) ∧ Hid (Below w.heap.size w w') ∧ Hid (yM l sh rows = 4)) (fun _ _ => 0) rfl ?first ?pass
 case pass =>
  rintro a' w' ⟨ha, HB, HN⟩
  obtain ⟨u, rfl⟩ : ∃ u : Nat → Value, a' = { tmps := List.toArray (((u 0)) :: ((u 1)) :: ((u 2)) :: ((u 3)) :: ((u 4)) :: ((u 5)) :: ((u 6)) :: ((u 7)) :: ((u 8)) :: ((u 9)) :: ((u 10)) :: ((u 11)) :: ((u 12)) :: ((u 13)) :: ((u 14)) :: ((u 15)) :: ((u 16)) :: ((u 17)) :: ((u 18)) :: ((u 19)) :: ((u 20)) :: ((u 21)) :: ((u 22)) :: ((u 23)) :: ((u 24)) :: ((u 25)) :: ((u 26)) :: ((u 27)) :: ((u 28)) :: ((u 29)) :: ((u 30)) :: ((u 31)) :: ((u 32)) :: ((u 33)) :: ((u 34)) :: ((u 35)) :: ((u 36)) :: ((u 37)) :: ((u 38)) :: ((u 39)) :: ((u 40)) :: ((u 41)) :: ((u 42)) :: ((u 43)) :: ((u 44)) :: ((u 45)) :: ((u 46)) :: ((u 47)) :: ((u 48)) :: ((u 49)) :: ((u 50)) :: ((u 51)) :: ((u 52)) :: ((u 53)) :: ((u 54)) :: ((u 55)) :: ((u 56)) :: ((u 57)) :: ((u 58)) :: ((u 59)) :: ((u 60)) :: ((u 61)) :: ((u 62)) :: ((u 63)) :: ((u 64)) :: ((u 65)) :: ((u 66)) :: ((u 67)) :: ((u 68)) :: []), defers := [] } := ⟨fun k => a'.tmps.getD k undef, ha⟩
  clear ha
  go_wp2_with fail
  simp only [Exit.jump]
  refine bodyPost_ret (v := .tuple #[.slice none 0 0, .int .i64 4]) (by simp [results, Try.results47, go_sem]) rfl ?_
  exact ⟨HB.out, .inl ⟨by rw [HN.out]; decide, by rw [HN.out]⟩⟩
 go_wp2_with fail
 refine (zLK HSC.out HW.out HRP.out sa sc w HS.out).mono ?_
 rintro e w1 ⟨p, rfl, hpl, hpf, hpa, hpc, hp0, hpB, hstr, hb1⟩
 have HSTR := zH hstr; have HB1 := zH hb1
 have HPL := zH hpl; have HPF := zH hpf; have HPA := zH hpa; have HPC := zH hpc; have HP0 := zH hp0; have HPB := zH hpB
 clear hstr hb1 hpl hpf hpa hpc hp0 hpB
 go_upto_region 3 with fail
 by_cases h200 : 200 < rows.length
 ·have HN : Hid (yM l sh rows = 4) := zH (by unfold yM; rw [if_pos h200])
  go_wp2_with fail
  refine Go.wp_goto ?_
  dsimp (zetaDelta := true) only [Exit.inBlock, Exit.then, Exit.jump]
  exact ⟨rfl, rfl, HB1, HN⟩
 ·have HR1 := zH (HR.out.below HB1.out)
  have HROW1 := zH (HROW.out.go (S := fun _ => False) (ok' := fun b => b < w.heap.size) (chF HB1.out) (fun b _ h => ⟨fun h => h, h⟩))
  have H200 := zH h200
  have hdb : (decide (200 < (rows.length : Int))) = false := decide_eq_false (by omega)
  go_wp2_with fail
  clear hdb
  go_loopw [21] (fun iv wr => ∃ i : Nat, iv = .int .i64 (i : Int) ∧ i ≤ rows.length ∧ Hid (Below w1.heap.size w1 wr) ∧ Hid (∀ e ∈ (rows.map fun t => yL l (KF l) t 0).take i, e = 0)) (fun iv _ => rows.length - (intOf iv).toNat)
  case atStart => exact ⟨0, rfl, zLP _, zH (b0 w1), zH (by simp)⟩
  case round =>
   obtain ⟨i, rfl, hi, HB, HZ⟩ := hrel
   by_cases hil : i < rows.length
   ·obtain ⟨b, off, rfl, hbo, hcc⟩ := HR1.out.pos (by omega)
    obtain ⟨a4, c4, y0, y1, y2, hT⟩ := zAr HROW1.out i hil
    have e0 := cb HB.out (hcc _ _ y0); have e1 := cb HB.out (hcc _ _ y1); have e2 := cb HB.out (hcc _ _ y2)
    rw [← Nat.add_assoc] at e1 e2
    have HE : Hid ((rows.map fun t => yL l (KF l) t 0)[i]? = some (yL l (KF l) rows[i] 0)) := zH (by simp [hil])
    have HT := zH (xS.below HB.out _ _ hT.at)
    generalize rows[i] = t at *
    clear y0 y1 y2 hcc hT
    go_upto_region 7 with fail
    refine yE (fun wz hwz => ?_)
    have hbz : Below wr.heap.size wr wz := by rw [hwz]; exact ba (b0 wr) _
    have r9 : Rw wz wr.heap.size #[.int .i64 t.n, .string t.s, .slice a4 t.kids.length c4] 57 := by rw [hwz]; exact Rw.new wr _ _
    clear hwz e0 e1 e2
    have k0 : wz.cell? ⟨wr.heap.size, 0, none⟩ = some (.int .i64 t.n) := r9.cell 0
    have k1 : wz.cell? ⟨wr.heap.size, 1, none⟩ = some (.string t.s) := r9.cell 1
    have k2 : wz.cell? ⟨wr.heap.size, 2, none⟩ = some (.slice a4 t.kids.length c4) := r9.cell 2
    have HBZ := zH (bt HB.out hbz)
    have HTZ := zH (xS.below hbz _ _ HT.out)
    clear r9 hbz HT
    go_wp2_with fail
    refine (zLd l HSC.out.wf t sa l.length sc a4 c4 wz (slb HS.out (bt HB1.out HBZ.out)) HTZ.out).mono ?_
    rintro e w5 ⟨rfl, hb5⟩
    have HB5 := zH (bt HBZ.out hb5)
    clear hb5 k0 k1 k2 HTZ HBZ HB
    generalize yL l (KF l) t 0 = E at *
    by_cases hE : E = 0
    ·have hEb : (E != 0) = false := by simp [hE]
     have HZ2 : Hid (∀ e ∈ (rows.map fun t => yL l (KF l) t 0).take (i + 1), e = 0) := zH (by
      intro e he
      rw [List.take_add_one, HE.out] at he
      rcases List.mem_append.1 he with h | h
      ·exact HZ.out e h
      ·have : e = E := by simpa using h
       rw [this]; exact hE)
     clear hE HZ HE
     go_wp2_with fail
     go_roundw
     case rel => exact ⟨i + 1, by go_num, by omega, HB5, HZ2⟩
     case measure => simp [intOf]; omega
    ·have hEb : (E != 0) = true := by simp [hE]
     have HN : Hid (E ≠ 0) := zH hE
     have HC : Hid (yM l sh rows = E) := zH (by
      have hil2 : i < (rows.map fun t => yL l (KF l) t 0).length := by rw [List.length_map]; exact hil
      have h2 : (rows.map fun t => yL l (KF l) t 0)[i] = E := by have := HE.out; rw [List.getElem?_eq_getElem hil2] at this; exact Option.some.inj this
      have h1 := zEP hil2 HZ.out (by rw [h2]; exact hE)
      rw [h2] at h1
      unfold yM
      rw [if_neg H200.out, h1, if_pos hE])
     clear hE HZ HE
     go_wp2_with fail
     refine bodyPost_ret (v := .tuple #[.slice none 0 0, .int .i64 E]) (by simp [results, Try.results47, go_sem]) rfl ?_
     exact ⟨bt HB1.out HB5.out, .inl ⟨by rw [HC.out]; exact HN.out, by rw [HC.out]⟩⟩
   ·obtain rfl : i = rows.length := by omega
    have HZA : Hid (∀ t ∈ rows, yL l (KF l) t 0 = 0) := zH (fun t ht => HZ.out _ (by rw [List.take_of_length_le (by simp)]; exact List.mem_map_of_mem ht))
    have HR2 := zH (HR1.out.below HB.out)
    have HROW2 := zH (HROW1.out.go (S := fun _ => False) (ok' := fun b => b < w.heap.size) (chF HB.out) (fun b _ h => ⟨fun h => h, h⟩))
    have HSTR2 := zH (HSTR.out.below HB.out)
    have HB2 := zH (bt HB1.out HB.out)
    have HNC : Hid (∀ b, b < w.heap.size → ¬ p.ch (fun _ => none) b) := zH (by
     intro b hb hc
     have h1 := HSTR.out.bds
     rw [HP0.out] at h1
     rcases hc with rfl | rfl | ⟨j, _, ⟨_, _, h⟩⟩
     ·omega
     ·omega
     ·cases h)
    clear hil HZ HR1 HROW1 HSTR HB HB1
    obtain ⟨w2, hw2⟩ : ∃ w2, w2 = wr := ⟨_, rfl⟩
    rw [← hw2] at HR2 HROW2 HSTR2 HB2 ⊢
    clear hw2
    go_wp2_with fail
    go_loopw [34] (fun iv wr => ∃ (i : Nat) (aa : Nat → Option Addr), iv = .int .i64 (i : Int) ∧ i ≤ rows.length ∧ Hid (Str p wr (fun k => zS (p.lf k) sh (rows.take i)) aa) ∧ Hid (Stp p (fun _ => none) w2 aa wr)) (fun iv _ => rows.length - (intOf iv).toNat)
    case atStart => exact ⟨0, _, rfl, zLP _, zH (HSTR2.out.congr (fun k _ => by simp [zS])), zH (Stp.below (b0 w2))⟩
    case round =>
     obtain ⟨i, aa, rfl, hi, HSTR, HST⟩ := hrel
     by_cases hil : i < rows.length
     ·have hR := HR2.out.go (ok' := fun b => b < w.heap.size) HST.out.1 (fun b _ h => ⟨HNC.out b h, h⟩) (by decide)
      have hROW := HROW2.out.go (ok' := fun b => b < w.heap.size) HST.out.1 (fun b _ h => ⟨HNC.out b h, h⟩)
      obtain ⟨b, off, rfl, hbo, hcc⟩ := hR.pos (by omega)
      obtain ⟨a4, c4, y0, y1, y2, hT⟩ := zAr hROW i hil
      have e0 := hcc _ _ y0; have e1 := hcc _ _ y1; have e2 := hcc _ _ y2
      rw [← Nat.add_assoc] at e1 e2
      have HSN : Hid (∀ k, yH (fun k => zS (p.lf k) sh (rows.take i)) (fun k => yK (p.lf k) 0 0 0 0 sh rows[i]) k = zS (p.lf k) sh (rows.take (i + 1))) := zH (fun k => by
       rw [List.take_succ_eq_append_getElem hil, zDh]; rfl)
      have HSH : Hid (shT sh rows[i]) := zH (zE8 sh 0 rows[i] HSC.out.ix (HZA.out _ (List.getElem_mem hil)))
      have HT := zH hT
      generalize rows[i] = t at *
      clear y0 y1 y2 hcc hT hR hROW
      go_upto_region 14 with fail
      refine yE (fun wz hwz => ?_)
      have hbz : Below wr.heap.size wr wz := by rw [hwz]; exact ba (b0 wr) _
      have r9 : Rw wz wr.heap.size #[.int .i64 t.n, .string t.s, .slice a4 t.kids.length c4] 57 := by rw [hwz]; exact Rw.new wr _ _
      clear hwz e0 e1 e2
      have k0 : wz.cell? ⟨wr.heap.size, 0, none⟩ = some (.int .i64 t.n) := r9.cell 0
      have k1 : wz.cell? ⟨wr.heap.size, 1, none⟩ = some (.string t.s) := r9.cell 1
      have k2 : wz.cell? ⟨wr.heap.size, 2, none⟩ = some (.slice a4 t.kids.length c4) := r9.cell 2
      have HSTRZ := zH (HSTR.out.below hbz)
      have HSTZ := zH (HST.out.trans (Stp.below hbz))
      have HTZ := zH (HT.out.go (S := fun _ => False) (ok' := fun b => b < p.B0) (chF hbz) (fun b _ h => ⟨fun h => h, by rw [HP0.out]; exact h⟩))
      clear r9 hbz HT HSTR HST
      go_wp2_with fail
      have hsz := HSC.out.size
      have hval := zFQ p (sh := sh) (by rw [HPL.out]; exact HSC.out) (by rw [HPL.out]; exact HPF.out) (by rw [HPL.out]; omega) 1000 sh hsz (Nat.le_refl _) 0 t a4 c4 0 0 0 wz _ aa (by rw [HPL.out]; exact HSC.out.ix) (by rw [HPL.out, HSC.out.len]; omega) HSC.out.good HSTRZ.out HSH.out HTZ.out (by omega) (by omega) (by omega)
      refine hval.mono ?_
      rintro e w5 ⟨rfl, aa', hstr5, hst5⟩
      have HSTR5 := zH (hstr5.congr (fun k _ => HSN.out k)); have HST5 := zH (HSTZ.out.trans hst5)
      clear hval hstr5 hst5 hsz HSTRZ HSTZ k0 k1 k2 HTZ HSN HSH
      go_wp2_with fail
      go_roundw
      case rel => exact ⟨i + 1, aa', by go_num, by omega, HSTR5, HST5⟩
      case measure => simp [intOf]; omega
     ·obtain rfl : i = rows.length := by omega
      have hst := HSTR.out
      rw [List.take_length] at hst
      have q4 : wr.cell? ⟨p.bx, 4, none⟩ = some (.bool (mny p.m (fun k => zS (p.lf k) sh rows))) := hst.row.cell 4
      have HSTR3 := zH hst
      have HMY : Hid (mny p.m (fun k => zS (p.lf k) sh rows) = zBk (zG l l.length) sh rows) := zH (by
       rw [← HPF.out]; exact zIS p.lfs sh rows)
      have HF0 : Hid (zAd (rows.map fun t => yL l (KF l) t 0) = 0) := zH (zAA.2 (fun e he => by obtain ⟨t, ht, rfl⟩ := List.mem_map.1 he; exact HZA.out t ht))
      have HB3 := zH (Chg.bt HB2.out HST.out.1 (fun b _ h => by
       by_cases hb : b < w.heap.size
       ·exact absurd h (HNC.out b hb)
       ·omega))
      clear hil hst HSTR HST HSTR2 HZA HR2 HROW2 HB2
      generalize hmb : mny p.m (fun k => zS (p.lf k) sh rows) = mb at *
      have HMB := zH hmb
      clear hmb
      cases mb with
      | true =>
       have HN : Hid (yM l sh rows = 4) := zH (by unfold yM; rw [if_neg H200.out, HF0.out, if_neg (fun h => h rfl), if_pos HMY.out.symm])
       go_wp2_with fail
       refine Go.wp_goto ?_
       dsimp (zetaDelta := true) only [Exit.inBlock, Exit.then, Exit.jump]
       exact ⟨rfl, rfl, HB3, HN⟩
      | false =>
       have HN : Hid (yM l sh rows = 0) := zH (by unfold yM; rw [if_neg H200.out, HF0.out, if_neg (fun h => h rfl), if_neg (by rw [← HMY.out]; decide)])
       have htab := HSTR3.out.tab
       obtain ⟨cur0, cc0, ht0⟩ := htab
       have HCT0 := zH (CT.congr ht0 (C' := fun k => zS (p.lf k) sh rows) (fun k hk => zKg HMB.out k hk))
       have HLE : Hid (∀ k, k < p.m → (zS (p.lf k) sh rows).length ≤ 4000) := zH (fun k hk => zKV HMB.out k hk)
       have HRX := zH HSTR3.out.row
       have hbds := HSTR3.out.bds
       have hmx : p.m ≤ 1000 := by show p.lfs.length ≤ 1000; rw [HPF.out]; have := yW (l := l) (m := l.length); omega
       have q3 : wr.cell? ⟨p.bx, 3, none⟩ = some (.slice (some ⟨p.bc, 0, none⟩) p.m p.m) := HSTR3.out.row.cell 3
       clear ht0 HSTR3 HNC
       obtain ⟨w3, hw3⟩ : ∃ w3, w3 = wr := ⟨_, rfl⟩
       rw [← hw3] at HCT0 HRX hbds HB3 q3 q4 ⊢
       clear hw3
       go_wp2_with fail
       clear q3 q4
       go_loopw [51] (fun kv wr => ∃ (k : Nat) (cur : Array Value) (aa : Nat → Option Addr) (cc : Nat → Nat), kv = .int .i64 (k : Int) ∧ k ≤ p.m ∧ Hid (CT p.B wr p.bc p.m (fun k => zS (p.lf k) sh rows) cur aa cc) ∧ Hid (Chg (fun b => b = p.bc) w3 wr)) (fun kv _ => p.m - (intOf kv).toNat)
       case atStart => exact ⟨0, _, _, _, rfl, zLP _, HCT0, zH (Chg.refl _ _)⟩
       case round =>
        obtain ⟨k, cur, aa, cc, rfl, hk, HCT, HC⟩ := hrel
        have hszr := HC.out.size
        by_cases hkm : k < p.m
        ·have e0 := HCT.out.cell0 hkm; have e1 := HCT.out.cell1 hkm; have e2 := HCT.out.cell2 hkm
         have o0 := zH (HCT.out.ow.sl (j := k * 3) (by omega) (by rw [(ty0 k).2]; decide)); have o1 := zH (HCT.out.ow.sl (j := k * 3 + 1) (by omega) (by rw [(ty1 k).2]; decide)); have o2 := zH (HCT.out.ow.sl (j := k * 3 + 2) (by omega) (by rw [(ty2 k).2]; decide))
         rw [(ty0 k).2, (n0 _ k).1, (n0 _ k).2] at o0
         rw [(ty1 k).2, (n1 _ k).1, (n1 _ k).2] at o1
         rw [(ty2 k).2, (n2 _ k).1, (n2 _ k).2] at o2
         have hle := HLE.out k hkm
         have hlv := zFn (zS (p.lf k) sh rows)
         generalize hCk : zS (p.lf k) sh rows = Ck at *
         have HCK := zH hCk
         clear hCk
         go_upto_region 20 with fail
         refine yE (fun wz hwz => ?_)
         have hbz : Below wr.heap.size wr wz := by rw [hwz]; exact ba (b0 wr) _
         have r13 : Rw wz wr.heap.size #[.slice (aa (k * 3)) Ck.length (cc (k * 3)), .slice (aa (k * 3 + 1)) Ck.length (cc (k * 3 + 1)), .slice (aa (k * 3 + 2)) (zV Ck).length (cc (k * 3 + 2))] 42 := by rw [hwz]; exact Rw.new wr _ _
         clear hwz e0 e1 e2
         have g0 : wz.cell? ⟨wr.heap.size, 0, none⟩ = some (.slice (aa (k * 3)) Ck.length (cc (k * 3))) := r13.cell 0
         have g1 : wz.cell? ⟨wr.heap.size, 1, none⟩ = some (.slice (aa (k * 3 + 1)) Ck.length (cc (k * 3 + 1))) := r13.cell 1
         have g2 : wz.cell? ⟨wr.heap.size, 2, none⟩ = some (.slice (aa (k * 3 + 2)) (zV Ck).length (cc (k * 3 + 2))) := r13.cell 2
         have g3 : wz.cell? ⟨p.bx, 3, none⟩ = some (.slice (some ⟨p.bc, 0, none⟩) p.m p.m) := ((HRX.out.chg HC.out (fun e => hbds.2.2.1 e)).below hbz).cell 3
         have HG := zH (And.intro g0 (And.intro g1 (And.intro g2 g3)))
         have HBZ := zH hbz
         clear r13 hbz g0 g1 g2 g3
         refine zF (fun w' => w'.cell? ⟨wr.heap.size, 0, none⟩ = some (.slice (aa (k * 3)) Ck.length (cc (k * 3))) ∧ w'.cell? ⟨wr.heap.size, 1, none⟩ = some (.slice (aa (k * 3 + 1)) Ck.length (cc (k * 3 + 1))) ∧ w'.cell? ⟨wr.heap.size, 2, none⟩ = some (.slice (aa (k * 3 + 2)) (zV Ck).length (cc (k * 3 + 2))) ∧ w'.cell? ⟨p.bx, 3, none⟩ = some (.slice (some ⟨p.bc, 0, none⟩) p.m p.m)) [8] (by kernel_rfl) ?g17rgS (fun hHeld => ?g17rgR)
         case g17rgS => (try dsimp only); (first | exact HG.out | exact ⟨cb hb5 hHeld.1, cb hb5 hHeld.2.1, cb hb5 hHeld.2.2.1, cb hb5 hHeld.2.2.2⟩)
         try dsimp only at hHeld
         refine zD [0, 1, 2, 3, 4, 5] 3 (by kernel_rfl) (fun _ _ _ _ _ h => h) (by assumption) ?_
         iterate 6 ((apply YA.take rfl (by rfl); case hy => rintro w ⟨s0, s1, s2, s3⟩; go_simp; try with_reducible rfl); try simp only [pD])
         refine YA.nil ?_
         refine zB [6] (by kernel_rfl) (by simp) ?_
         refine zA.con 6 rfl (fun K hK => ?g17ro1) ?g17rm1
         case g17rm1 => exact zA.nil
         go_simp; refine (zLq (fun b => b < wr.heap.size) _ _ _ Ck.length (zV Ck).length _ _ _ _ _ _ _ (o0.out.below HBZ.out.drew) (o1.out.below HBZ.out.drew) (o2.out.below HBZ.out.drew) (zJk Ck) (zJl Ck) (zG9 (zV Ck)) (by omega) (by omega)).mono ?_; rintro e w5 ⟨a0, c0, a1, c1, a2, c2, rfl, hb5, h3⟩; dsimp only
         refine hK.out _ _ ?g17rs1 (fun hHeld => ?g17rt1)
         case g17rs1 => (try dsimp only); (first | exact HG.out | exact ⟨cb hb5 hHeld.1, cb hb5 hHeld.2.1, cb hb5 hHeld.2.2.1, cb hb5 hHeld.2.2.2⟩)
         try dsimp only at hHeld
         clear hK K
         try simp only [pD]
         refine zD [7] 1 (by kernel_rfl) (fun _ _ _ _ _ h => h) (by assumption) ?_
         iterate 1 ((apply YA.take rfl (by rfl); case hy => rintro w ⟨s0, s1, s2, s3⟩; go_simp; try with_reducible rfl); try simp only [pD])
         refine YA.nil ?_
         refine zB [8] (by kernel_rfl) (by simp) ?_
         refine zA.lst 8 rfl (by kernel_rfl) (fun K hK => ?g17ro2) ?g17rm2
         case g17rm2 => exact zA.nil
         (have hct5 := (HCT.out.below HBZ.out.drew).below hb5); (have v0 : w5.cell? ⟨p.bc, k * 3, none⟩ = some (.slice (aa (k * 3)) Ck.length (cc (k * 3))) := by rw [← HCK.out]; exact hct5.cell0 hkm); (have v1 : w5.cell? ⟨p.bc, k * 3 + 1, none⟩ = some (.slice (aa (k * 3 + 1)) Ck.length (cc (k * 3 + 1))) := by rw [← HCK.out]; exact hct5.cell1 hkm); (have v2 : w5.cell? ⟨p.bc, k * 3 + 2, none⟩ = some (.slice (aa (k * 3 + 2)) (zV Ck).length (cc (k * 3 + 2))) := by rw [← HCK.out]; exact hct5.cell2 hkm); (have vf := hct5.row.frozen); (have vl := hct5.row.lt); go_simp
         refine hK.out _ _ ?_
         clear hK K
         try simp only [pD]
         refine zE (by kernel_rfl) ?_
         have hz5 : wz.drew.heap.size = wz.heap.size := rfl
         have hszz := HBZ.out.size
         have hct := CT.renew (HCT.out.below HBZ.out.drew) hkm (by omega) hb5 (a0 := a0) (c0 := c0) (a1 := a1) (c1 := c1) (a2 := a2) (c2 := c2) (by rw [HCK.out]; exact h3)
         try dsimp only at hct
         rw [HCK.out] at hct
         have HCT5 := zH hct
         have HC5 := zH ((((HC.out.trans (Chg.ofBelow (bt HBZ.out.drew hb5)) (fun i hi h => by omega)).setCell (p := ⟨p.bc, k * 3, none⟩) (.inr rfl) (.slice a0 Ck.length c0)).setCell (p := ⟨p.bc, k * 3 + 1, none⟩) (.inr rfl) (.slice a1 Ck.length c1)).setCell (p := ⟨p.bc, k * 3 + 2, none⟩) (.inr rfl) (.slice a2 (zV Ck).length c2))
         clear hct v0 v1 v2 vf vl hct5 hHeld h3 hb5 hz5 hszz
         go_wp2_with fail
         go_roundw
         case rel => exact ⟨k + 1, _, _, _, by go_num, by omega, HCT5, HC5⟩
         case measure => simp [intOf]; omega
        ·obtain rfl : k = p.m := by omega
         have hrx := HRX.out.chg HC.out (fun e => hbds.2.2.1 e)
         have q3 : wr.cell? ⟨p.bx, 3, none⟩ = some (.slice (some ⟨p.bc, 0, none⟩) p.m p.m) := hrx.cell 3
         have hpm : p.m = (zG l l.length).length := by show p.lfs.length = _; rw [HPF.out]
         have HPM := zH hpm
         clear hrx hpm hkm
         go_wp2_with fail
         refine bodyPost_ret (v := .tuple #[.slice (some ⟨p.bc, 0, none⟩) p.m p.m, .int .i64 0]) (by simp [results, Try.results47, go_sem]) rfl ?_
         have hp0 := HP0.out
         refine ⟨Chg.bt HB3.out HC.out (fun b hb h => by have h' : b = p.bc := h; omega), .inr ⟨HN.out, p.B, p.bc, cur, aa, cc, by rw [HPM.out], by omega, ?_⟩⟩
         have hct := HCT.out
         rw [HPM.out] at hct
         have hlf : (fun k => zS ((zG l l.length).getD k 0) sh rows) = fun k => zS (p.lf k) sh rows := by funext k; rw [← HPF.out]; rfl
         rw [hlf]
         exact hct
theorem Rw.sl {w : World} {b : Nat} {cur : Array Value} {t : TypeId} (h : Rw w b cur t) (n size : Nat) (hn : cur.size = n * size) (hm : n ≤ maxLen) : Sl (fun b => b < w.heap.size) w size (some ⟨b, 0, none⟩) n n cur.toList :=
 ⟨by simpa using hn, Nat.le_refl _, hm, .inr ⟨b, 0, rfl, h.lt, fun j u hj => by rw [Nat.zero_add, h.cell]; simpa using hj⟩⟩
end Go.Proofs.Ytjbkjfefjhbolaa
