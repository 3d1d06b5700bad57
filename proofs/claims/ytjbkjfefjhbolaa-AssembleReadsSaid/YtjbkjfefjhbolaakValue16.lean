import Derived.Test.YtjbkjfefjhbolaakLeaf16
set_option linter.all false
open Nat renaming min_eq_right → zLP, min_eq_left → zLQ, le_refl → zLS, add_zero → zLY
open List renaming getD_eq_getElem?_getD → zLR, getElem?_eq_getElem → zLT, length_append → zLU, replicate → zLV, take_succ_eq_append_getElem → zLW, length_take → zLX, range_succ → zLZ, map_append → zL0, getElem_cons_zero → zL1, length_replicate → zL2
namespace Go.Proofs.Ytjbkjfefjhbolaa
open Go.RowKit Go.Shr
theorem zCV (w : World) (b j : Nat) (u : Value) : Chg (fun k => k = b) w (w.setCell ⟨b, j, none⟩ u) := (Chg.refl (fun k => k = b) w).setCell (p := ⟨b, j, none⟩) (.inr rfl) u
theorem zKw (z : Value) (n : Nat) : (madeCells #[z] (n * 1)).toList = zLV n z := by rw [Nat.mul_one, toList_madeCells_one]
theorem zJF (x y z : Value) : ∀ (n : Nat), (madeCells #[x, y, z] (n * 3)).toList = (zLV n [x, y, z]).flatten
 | 0 => by simp [madeCells]
 | n + 1 => by
  have ih := zJF x y z n
  unfold madeCells at ih ⊢
  simp only [Array.toList_map, Array.toList_range] at ih ⊢
  rw [show (n + 1) * 3 = n * 3 + 1 + 1 + 1 by omega, zLZ, zLZ, zLZ, zL0, zL0, zL0, ih, List.replicate_succ', List.flatten_append]
  simp only [List.map_cons, List.map_nil, List.flatten_cons, List.flatten_nil, List.append_nil, List.append_assoc, List.cons_append, List.nil_append]
  rw [show (#[x, y, z] : Array Value).size = 3 from rfl, show n * 3 % 3 = 0 by omega, show (n * 3 + 1) % 3 = 1 by omega, show (n * 3 + 1 + 1) % 3 = 2 by omega]
  rfl
theorem zK3 {l : List Fl} {s : Sh} {i : Nat} (h : Ix l (fun v => zK (par l) v) i s) (hn : i + s.size ≤ l.length) : inN l i = kb l (i + s.size) - kb l i := by
 have hl := zW l
 have key : ∀ (n : Nat), n ≤ l.length → ((zG l n).filter fun f => (Go.Shr.chain (par l) f).contains i).length = kb l (min n (i + s.size)) - kb l (min n i) := by
  intro n
  induction n with
  | zero => intro _; simp [zG, kb]
  | succ n ih =>
   intro hle
   have ih := ih (by omega)
   have hr := zCR h (by rw [hl]; exact hn) (lf := n) (by rw [hl]; omega)
   by_cases hk : (flN l n).kind = 0
   ·rw [jC hk, ih]
    have e1 : kb l (min (n + 1) (i + s.size)) = kb l (min n (i + s.size)) := by
     by_cases h1 : n + 1 ≤ i + s.size
     ·rw [zLQ h1, zLQ (by omega), zBl hk]
     ·rw [zLP (by omega), zLP (by omega)]
    have e2 : kb l (min (n + 1) i) = kb l (min n i) := by
     by_cases h1 : n + 1 ≤ i
     ·rw [zLQ h1, zLQ (by omega), zBl hk]
     ·rw [zLP (by omega), zLP (by omega)]
    rw [e1, e2]
   ·rw [xQ hk, List.filter_append, zLU, ih]
    by_cases h1 : i ≤ n
    ·rw [zLP (show i ≤ n by omega), zLP (show i ≤ n + 1 by omega)]
     by_cases h2 : n < i + s.size
     ·have hc : (Go.Shr.chain (par l) n).contains i = true := by simpa using hr.2 ⟨h1, h2⟩
      rw [zLQ (by omega), zLQ (by omega), jH, if_neg hk]
      have := yS l h1
      simp [hr.2 ⟨h1, h2⟩]; omega
     ·have hc : ¬ i ∈ Go.Shr.chain (par l) n := fun hm => by have := hr.1 hm; omega
      rw [zLP (by omega), zLP (by omega)]
      simp [hc]
    ·have hc : ¬ i ∈ Go.Shr.chain (par l) n := fun hm => by have := hr.1 hm; omega
     rw [zLQ (by omega), zLQ (by omega), zLQ (by omega), zLQ (by omega)]
     simp [hc]
 have := key l.length (zLS _)
 rw [zLP hn, zLP (by omega)] at this
 exact this
set_option maxHeartbeats 1000000 in
set_option maxRecDepth 100000 in
theorem zGv (q : BQ) (hx : CX q) (s : Sh) (hk : s.kind ≠ 0) : VOk q s := by
 intro i sp a c w bad hix hn hg hB hsl hsp
 obtain ⟨nm, rp, kd, ks⟩ := s
 simp only [Sh.kind] at hk
 simp only [zR] at hg
 have hks := hg.2.2.2.2.1 hk
 subst hks
 have hix' := hix
 simp only [Ix] at hix
 simp only [Sh.size, zC] at hn
 have hi : i < q.n := by show i < q.l.length; omega
 have hkd : (flN q.l i).kind = kd := by unfold flN; rw [zLR, hix.1]; rfl
 have hki : (flN q.l i).kind ≠ 0 := by rw [hkd]; exact hk
 have hlen := hsp.len
 simp only [Sh.size, zC, zLY] at hlen
 rw [jH, if_neg hki] at hlen
 match sp, hlen with
 | [], hlen => simp at hlen
 | _ :: _ :: _, hlen => simp at hlen
 | [p], _ =>
 obtain ⟨hpk, hpo⟩ := hsp.at' 0 (by simp)
 simp only [zL1, zLY] at hpk hpo
 have hlf : q.lf p.k = i := by rw [hpk]; exact zJG hi hki
 have HCELL : Hid (∀ C (t0 : Tr) r, jN q C i [p] (fun lf => yK lf i (lvD q.l i) (lvR q.l i) r (.mk nm rp kd []) t0) → zCZ C p = [⟨r, lvD q.l i, some ⟨t0.n, t0.s⟩⟩]) := zH (fun C t0 r h => by
  have := h 0 (by simp)
  simp only [zL1, zLY, zJG hi hki, yK] at this
  rw [if_pos hk, if_pos trivial] at this
  exact this)
 obtain ⟨pb, po, rfl, hpok, hpc⟩ := hsl.pos (by simp)
 have p0 : w.cell? ⟨pb, po, none⟩ = some (.int .i64 (p.k : Int)) := hpc 0 _ rfl
 have p1 : w.cell? ⟨pb, po + 1, none⟩ = some (.int .i64 (p.f : Int)) := hpc 1 _ rfl
 have p2 : w.cell? ⟨pb, po + 2, none⟩ = some (.int .i64 (p.t : Int)) := hpc 2 _ rfl
 obtain ⟨sb, so, hsa, _, _, f2⟩ := hB.st.row hi
 rw [hkd] at f2
 have x0 : w.cell? ⟨q.bx, 0, none⟩ = some (.slice (some ⟨sb, so, none⟩) q.n q.sc) := by have := hB.row.cell 0; rw [this]; simp [BQ.box, hsa]
 have hbxl := hB.row.lt
 have hB0 := hB.B0
 have HPO := zH hpo
 have HB := zH hB; have HX := zH hx
 have hkb : (kd != 0) = true := by simp [hk]
 have hl1 : [p].length = 1 := rfl
 rw [hl1]
 show Calls _ _ _ _ (VQ q i (.mk nm rp kd []) [p] bad w)
 clear hpc hsl hsp hB hx hix hix' hsa hki hpk hlf hg hkd hl1
 go_enter Try.func45, Try.ntmps45
 go_upto_region 1 with fail
 refine yE (fun w1 hw1 => ?_)
 have hb1 : Below w.heap.size w w1 := by rw [hw1]; exact ba (b0 w) _
 have r6 : Rw w1 w.heap.size #[.int .i64 0, .string ByteArray.empty, .slice none 0 0] 57 := by rw [hw1]; exact Rw.new w _ _
 clear hw1
 replace p0 := cb hb1 p0; replace p1 := cb hb1 p1; replace p2 := cb hb1 p2; replace f2 := cb hb1 f2; replace x0 := cb hb1 x0
 have HB1 := zH hb1; have R6 := zH r6
 clear hb1 r6
 go_wp2_with fail
 refine (zI3 q HX.out p w1 bad HPO.out (HB.out.below HB1.out)).mono ?_
 rintro e w2 ⟨n, s, bad', rfl, hs, hB2, hC2, hcond⟩
 have r6 := R6.out.chg hC2 (fun h => by have h' : w.heap.size = q.bx := h; omega)
 have t0 := r6.cell 0; have t1 := r6.cell 1; have t2 := r6.cell 2
 simp only [pG] at t0 t1 t2
 have tf := r6.frozen; have tl := r6.lt
 have zr := r6.set3 (u0 := .int .i64 n) (u1 := .string s) (u2 := .slice none 0 0)
 have z0 := zr.cell 0; have z1 := zr.cell 1; have z2 := zr.cell 2
 simp only [pG] at z0 z1 z2
 have HS := zH hs; have HB2 := zH hB2; have HC2 := zH hC2; have HCO := zH hcond
 clear p0 p1 p2 f2 x0 r6 zr hs hB2 hC2 hcond
 go_wp2_with fail
 refine bodyPost_ret (v := .agg #[.int .i64 n, .string s, .slice none 0 0]) (by simp [results, Try.results45, go_sem, z0, z1, z2]) rfl ?_
 refine ⟨.mk n s [], none, 0, bad', rfl, TrG.leaf HS.out, ?_, ?_, fun C u r hC hu hce hb => ?_⟩
 ·exact HB2.out.other (zD8 (Chg.refl (fun b => b = w.heap.size) w2) rfl) (fun k hk e => by
   have e' : k = w.heap.size := e
   rcases hk with hk | hk <;> omega)
 ·have g0 : Chg (fun b => b = q.bx) w w2 := ((chF HB1.out).mono (fun _ _ h => h.elim)).trans HC2.out (fun _ _ h => h)
  have g2 := g0.setCell (p := ⟨w.heap.size, 0, none⟩) (.inl (zLS _)) (.int .i64 n)
  have g3 := g2.setCell (p := ⟨w.heap.size, 1, none⟩) (.inl (zLS _)) (.string s)
  exact g3.setCell (p := ⟨w.heap.size, 2, none⟩) (.inl (zLS _)) (.slice none 0 0)
 ·obtain ⟨h1, h2, h3⟩ := HCO.out C r (lvD q.l i) ⟨u.n, u.s⟩ hC (HCELL.out C u r hce) hb
  refine ⟨h1, ?_⟩
  rw [fsT, if_pos hk] at hu
  obtain ⟨un, us, uk⟩ := u
  simp only [Tr.n, Tr.s, Tr.kids] at h2 h3 hu
  subst h2 h3 hu
  rfl
theorem zI5 : (Try.prog.info? 28).map (fun i => (i.zero, i.size, i.bytes)) = some (some (.slice none 0 0), 1, 24) := by kernel_rfl
theorem zCE : ∀ {ks : List Sh} (_ : yG ks) (j : Nat) (h : j < ks.length), zR ks[j]
 | s :: r, hg, 0, _ => by simp only [yG] at hg; exact hg.1
 | s :: r, hg, j + 1, h => by simp only [yG] at hg; exact zCE hg.2 j (by simpa using h)
theorem zHd {α : Type} {ks : List α} {j : Nat} (h : j < ks.length) : ks = ks.take j ++ ks[j] :: ks.drop (j + 1) := by rw [List.getElem_cons_drop, List.take_append_drop]
def zKF (q : BQ) (i : Nat) (s : Sh) (sp : List Spn) (bad br : Bool) (A : List (List Tr)) (j : Nat) : Prop :=
 ∀ C t0 r, yQ q C → fsT s t0 → jN q C i sp (fun lf => yK lf i (lvD q.l i) (lvR q.l i) r s t0) → bad = false → br = false ∧ A = t0.kids.take j
set_option maxHeartbeats 2000000 in
set_option maxRecDepth 100000 in
theorem zHM (q : BQ) (hx : CX q) (nm : ByteArray) (rp : Int) (ks : List Sh) (hkl : ks.length ≤ 1000) (IH : ∀ s ∈ ks, LOk q s) : VOk q (.mk nm rp 0 ks) := by
 intro i sp a c w bad hix hn hg hB hsl hsp
 obtain ⟨it, hit, hz0t, hz1t, hz2t⟩ := info_parts zI5
 simp only [zR] at hg
 simp only [Ix] at hix
 simp only [Sh.size] at hn
 have hi : i < q.n := by show i < q.l.length; omega
 have hsm := hx.small
 have hkd : (flN q.l i).kind = 0 := by unfold flN; rw [zLR, hix.1]; rfl
 have hspl : sp.length ≤ 1000 := by have h1 := hsp.len; have h2 := zIt q.l (i + (Sh.mk nm rp 0 ks).size); simp only [Sh.size] at h1 h2; omega
 obtain ⟨sb, so, hsa, _, _, f2⟩ := hB.st.row hi
 rw [hkd] at f2
 have x0 : w.cell? ⟨q.bx, 0, none⟩ = some (.slice (some ⟨sb, so, none⟩) q.n q.sc) := by have := hB.row.cell 0; rw [this]; simp [BQ.box, hsa]
 obtain ⟨hkok, hkr⟩ := hB.st.kids
 obtain ⟨ka, kc, g0, gs⟩ := hkr i hi
 dsimp only at g0 gs
 have hKO : KF q.l (i : Int) = yX (i + 1) ks := hix.2.1
 rw [hKO, jU] at g0 gs
 have x1 : w.cell? ⟨q.bx, 1, none⟩ = some (.slice (some ⟨q.bk, 0, none⟩) q.n q.n) := by have := hB.row.cell 1; rw [this]; simp [BQ.box]
 have hbxl := hB.row.lt
 have hB0 := hB.B0
 have hkne : 0 < ks.length := List.length_pos_iff.2 (hg.2.2.2.2.2.1 trivial)
 obtain ⟨kab, kao, rfl, hkaok, hkc⟩ := gs.pos hkne
 have HKC := zH hkc
 have hKOx : Hid (zK (par q.l) (i : Int) = yX (i + 1) ks) := zH hix.2.1
 have HB := zH hB; have HX := zH hx; have HIX := zH hix.2.2; have HGL := zH hg.2.2.2.2.2.2; have HSL := zH hsl; have HSP := zH hsp; have HIH := zH IH; have HKD := zH hkd
 show Calls _ _ _ _ (VQ q i (.mk nm rp 0 ks) sp bad w)
 clear hsl hsp hB hx hix hsa hkd hg hkr gs hkc IH hKO
 go_enter Try.func45, Try.ntmps45
 go_upto_region 1 with fail
 refine yE (fun w1 hw1 => ?_)
 have hb1 : Below w.heap.size w w1 := by rw [hw1]; exact ba (b0 w) _
 have r6 : Rw w1 w.heap.size #[.int .i64 0, .string ByteArray.empty, .slice none 0 0] 57 := by rw [hw1]; exact Rw.new w _ _
 clear hw1
 have HG1 := zH (And.intro x1 g0)
 replace f2 := cb hb1 f2; replace x0 := cb hb1 x0; replace x1 := cb hb1 x1; replace g0 := cb hb1 g0
 have hsz1 := hb1.size
 have HB1 := zH hb1; have R6 := zH r6
 clear hb1 r6
 go_upto_region 4 with (at_make; refine zAw rfl _ _ _ rfl w1.heap.size _ it (.slice none 0 0) 1 Try.underlying55 hit hz0t hz1t .i64 .i64 _ _ ks.length rfl rfl rfl rfl (by rw [hz2t]; omega) (by simp only [maxLen]; omega) (zLS _) ?_; intro w2 hown hchg; (have HO2 := zH hown); (have HB2 := zH (hchg.nothing (fun _ _ h => h))); clear hown hchg)
 obtain ⟨gb, hgb⟩ : ∃ b, b = w1.heap.size := ⟨_, rfl⟩
 refine yE (fun w3 hw3 => ?_)
 have hb3 : Below w2.heap.size w2 w3 := by rw [hw3]; exact ba (b0 w2) _
 have r7 : Rw w3 w2.heap.size #[.int .i64 0, .string ByteArray.empty, .slice (some ⟨w1.heap.size, 0, none⟩) ks.length ks.length] 57 := by rw [hw3]; exact Rw.new w2 _ _
 clear hw3
 have HO3 := zH (HO2.out.below hb3)
 rw [← hgb] at HO3 r7 ⊢
 obtain ⟨b7, hb7⟩ : ∃ b, b = w2.heap.size := ⟨_, rfl⟩
 rw [← hb7] at r7 ⊢
 have hsz2 := HB2.out.size
 have hg2 : gb < w2.heap.size := by obtain ⟨g, he, _, h4, _⟩ := HO2.out.pos hkne; cases he; omega
 have hsz3 : w2.heap.size < w3.heap.size := by have := r7.lt; omega
 have hwg : w.heap.size < gb := by have := R6.out.lt; omega
 have h7g : gb < b7 := by omega
 have h73 : b7 < w3.heap.size := by omega
 have hww3 : w.heap.size ≤ w3.heap.size := by omega
 have HB3 := zH (bt HB1.out (bt HB2.out hb3))
 have R7 := zH r7
 have R63 := zH ((R6.out.below HB2.out).below hb3)
 clear hgb hb7 hb3 r7 HO2 f2 x0 x1 g0
 have x1 := cb HB3.out HG1.out.1; have g0 := cb HB3.out HG1.out.2
 go_wp2_with fail
 clear x1 g0
 go_loopw [8, 44] (fun av kv wr => ∃ (j : Nat) (br : Bool) (A : List (List Tr)) (hd : List Value), av = .int .i64 ((kb q.l (i + 1 + zC (ks.take j)) - kb q.l i : Nat) : Int) ∧ kv = .int .i64 (j : Int) ∧ j ≤ ks.length ∧ A.length = j ∧ Hid (BA q wr br) ∧ Hid (Own gb wr 28 1 (some ⟨gb, 0, none⟩) ks.length ks.length hd) ∧ Hid (yO (fun b => w3.heap.size ≤ b) wr (A ++ zLV (ks.length - j) []) hd) ∧ Hid (Chg (fun b => b = q.bx ∨ b = gb) w3 wr) ∧ Hid (zKF q i (.mk nm rp 0 ks) sp bad br A j)) (fun _ kv _ => ks.length - (intOf kv).toNat)
 case atStart =>
  refine ⟨0, bad, [], _, by simp [zC, zBl HKD.out], rfl, Nat.zero_le _, rfl, zH (HB.out.below HB3.out), HO3, zH ?_, zH (Chg.refl _ _), zH (fun C t0 r _ _ _ hb => ⟨hb, by simp⟩)⟩
  rw [show (Value.slice none 0 0).cells = #[.slice none 0 0] from rfl, zKw]
  simpa using yO.zeros ks.length
 case round =>
  obtain ⟨j, br, A, hd, rfl, rfl, hj, hAl, HBA, HO, HK, HC, HV⟩ := hrel
  have hszr := HC.out.size
  have HAL := zH hAl
  clear hAl
  have HCW : Hid (Chg (fun b => b = q.bx) w wr) := zH ⟨HC.out.os.trans HB3.out.os, HC.out.tape.trans HB3.out.tape, HC.out.output.trans HB3.out.output, by omega, fun k hk hn => (HC.out.block k (by omega) (fun h => h.elim hn (fun h => by omega))).trans (HB3.out.block k hk)⟩
  have HFIN : Hid (∀ (u0 u1 u2 : Value) (b' : Bool) (w5 : World), BA q w5 b' → Chg (fun b => b = q.bx) wr w5 → (u0 = .int .i64 0 → u1 = .string ByteArray.empty → u2 = .slice (some ⟨gb, 0, none⟩) ks.length ks.length →
    ((j = ks.length ∧ b' = br) ∨ (∀ C t0 r, yQ q C → fsT (.mk nm rp 0 ks) t0 → jN q C i sp (fun lf => yK lf i (lvD q.l i) (lvR q.l i) r (.mk nm rp 0 ks) t0) → ¬ bad = false)) →
    VQ q i (.mk nm rp 0 ks) sp bad w (.returned (.agg #[u0, u1, u2])) (((w5.setCell ⟨w.heap.size, 0, none⟩ u0).setCell ⟨w.heap.size, 1, none⟩ u1).setCell ⟨w.heap.size, 2, none⟩ u2))) := zH (fun u0 u1 u2 b' w5 hB5 hC5 e0 e1 e2 hor => by
   subst e0 e1 e2
   have hs5 := hC5.size
   have hcs := zD8 (Chg.refl (fun b => b = w.heap.size) w5) rfl (u0 := .int .i64 0) (u1 := .string ByteArray.empty) (u2 := .slice (some ⟨gb, 0, none⟩) ks.length ks.length)
   have hown5 := (HO.out.chg (S := fun b => b = q.bx) hC5 (fun k ⟨_, _, h⟩ e => by cases h; have e' : gb = q.bx := e; omega)).chg hcs (fun k ⟨_, _, h⟩ e => by cases h; have e' : gb = w.heap.size := e; omega)
   have hk5 := (HK.out.go (ok' := fun b => w3.heap.size ≤ b) hC5 (fun k _ h => ⟨fun e => by have e' : k = q.bx := e; omega, h⟩)).go (ok' := fun b => w.heap.size ≤ b) hcs (fun k _ h => ⟨fun e => by have e' : k = w.heap.size := e; omega, by omega⟩)
   have hlen : (A ++ zLV (ks.length - j) ([] : List Tr)).length = ks.length := by rw [zLU, zL2, HAL.out]; omega
   refine ⟨.mk 0 ByteArray.empty (A ++ zLV (ks.length - j) []), some ⟨gb, 0, none⟩, ks.length, b', by simp only [Tr.n, Tr.s, Tr.kids, hlen], ?_, ?_, ?_, ?_⟩
   ·refine TrG.mk' (by show ByteArray.empty.size ≤ maxLen; decide) ?_ hk5
    simp only [Tr.kids, hlen]
    exact hown5.sl.mono (fun b _ h => by have := h.1; omega) (by decide)
   ·exact hB5.other hcs (fun k hk e => by
     have e' : k = w.heap.size := e
     rcases hk with hk | hk <;> omega)
   ·have c2 := HCW.out.trans hC5 (fun _ _ h => h)
    have c3 := c2.setCell (p := ⟨w.heap.size, 0, none⟩) (.inl (zLS _)) (.int .i64 0)
    have c4 := c3.setCell (p := ⟨w.heap.size, 1, none⟩) (.inl (zLS _)) (.string ByteArray.empty)
    exact c4.setCell (p := ⟨w.heap.size, 2, none⟩) (.inl (zLS _)) _
   ·intro C t0 r h1 h2 h3 hb
    rcases hor with ⟨hj, rfl⟩ | hor
    ·obtain ⟨g1, g2⟩ := HV.out C t0 r h1 h2 h3 hb
     refine ⟨g1, ?_⟩
     rw [fsT, if_neg (by decide)] at h2
     obtain ⟨un, us, uk⟩ := t0
     simp only [Tr.n, Tr.s, Tr.kids] at h2 g2 ⊢
     have hul := zFi h2.2.2
     rw [h2.1, h2.2.1, hj, Nat.sub_self, List.replicate_zero, List.append_nil, g2, hj, List.take_of_length_le (by omega)]
    ·exact absurd hb (hor C t0 r h1 h2 h3))
  have r6r := R63.out.chg HC.out (fun h => by rcases h with h | h <;> omega)
  have t0 := r6r.cell 0; have t1 := r6r.cell 1; have t2 := r6r.cell 2
  simp only [pG] at t0 t1 t2
  have tf := r6r.frozen; have tl := r6r.lt
  have r7r := R7.out.chg HC.out (fun h => by rcases h with h | h <;> omega)
  have s0 := r7r.cell 0; have s1 := r7r.cell 1; have s2 := r7r.cell 2
  simp only [pG] at s0 s1 s2
  have HR6 := zH r6r; have HR7 := zH r7r
  clear r6r r7r
  by_cases hjl : j < ks.length
  rotate_left
  ·have HJ : Hid (j = ks.length) := zH (by omega)
   have hjn : ¬ (j : Int) < (ks.length : Int) := by omega
   clear hjl
   have zr := HR6.out.set3 (u0 := .int .i64 0) (u1 := .string ByteArray.empty) (u2 := .slice (some ⟨gb, 0, none⟩) ks.length ks.length)
   have z0 := zr.cell 0; have z1 := zr.cell 1; have z2 := zr.cell 2
   simp only [pG] at z0 z1 z2
   clear zr
   go_wp2_with fail
   refine bodyPost_ret (v := .agg #[.int .i64 0, .string ByteArray.empty, .slice (some ⟨gb, 0, none⟩) ks.length ks.length]) (by simp [results, Try.results45, go_sem, z0, z1, z2]) rfl ?_
   exact HFIN.out _ _ _ br wr HBA.out (Chg.refl _ _) rfl rfl rfl (.inl ⟨HJ.out, rfl⟩)
  ·have hjl' : (j : Int) < (ks.length : Int) := by omega
   obtain ⟨ho1, ho2, ho3⟩ := zAv ks (i + 1) j hjl HIX.out
   have hks := zHd hjl
   have hon : i + 1 + zC (ks.take j) + ks[j].size ≤ q.l.length := by omega
   have hkid := zAB.kid (q := q) (nm := nm) (rp := rp) (done := ks.take j) (s := ks[j]) (todo := ks.drop (j + 1)) (i := i) (sp := sp) (by rw [← hks]; exact HSP.out) HKD.out
   obtain ⟨hk1, hk2, hk3, hk4⟩ := hkid
   obtain ⟨K, hKI, hKl⟩ := HBA.out.st.ins
   obtain ⟨ia, ic, n0, _⟩ := hKI.2 (i + 1 + zC (ks.take j)) (by show _ < q.l.length; have := qJ ks[j]; omega)
   rw [hKl _ (by show _ < q.l.length; have := qJ ks[j]; omega), zK3 ho2 hon] at n0
   have HNX : Hid (kb q.l (i + 1 + zC (ks.take (j + 1))) - kb q.l i = (kb q.l (i + 1 + zC (ks.take j)) - kb q.l i) + (kb q.l (i + 1 + zC (ks.take j) + ks[j].size) - kb q.l (i + 1 + zC (ks.take j)))) := zH (by
    rw [zLW hjl, yA]
    simp only [zC, zLY]
    rw [← Nat.add_assoc (i + 1)]
    omega)
   have hsl := HSL.out.go (ok' := fun b => b < wr.heap.size ∧ b ≠ q.bx) HCW.out (fun k hk h => ⟨fun e => h.2 e, by have := HCW.out.size; omega, h.2⟩) (by decide)
   have m0 : wr.cell? ⟨kab, kao + j, none⟩ = some (.int .i64 ((i + 1 + zC (ks.take j) : Nat) : Int)) := HCW.out.keep (HKC.out j _ (by simp only [zQ, List.getElem?_map, ho1, Option.map_some])) hkaok.2
   have hmem := List.mem_of_getElem? ho1
   have HPAR : Hid (lvD q.l (i + 1 + zC (ks.take j)) = lvD q.l i + dmI ks[j].rep ∧ lvR q.l (i + 1 + zC (ks.take j)) = lvR q.l i + rmI ks[j].rep) := zH (by
    have hm2 : ((i + 1 + zC (ks.take j) : Nat) : Int) ∈ zK (par q.l) (i : Int) := by rw [hKOx.out]; exact hmem
    obtain ⟨hpl, hpe⟩ := zCc hm2
    have hf : ∃ f, q.l[i + 1 + zC (ks.take j)]? = some f ∧ f.rep = ks[j].rep := by
     generalize ks[j] = sj at ho2
     obtain ⟨nm', rp', kd', kk'⟩ := sj
     have h2 := ho2
     simp only [Ix] at h2
     exact ⟨_, h2.1, rfl⟩
    obtain ⟨f, hf1, hf2⟩ := hf
    have := zDs hpl hpe hf1
    rw [hf2] at this
    exact ⟨this.2, this.1⟩)
   have HCE : Hid (∀ C (t0 : Tr) r, t0.kids.length = ks.length → jN q C i sp (fun lf => yK lf i (lvD q.l i) (lvR q.l i) r (.mk nm rp 0 ks) t0) → jN q C (i + 1 + zC (ks.take j)) ((sp.drop (kb q.l (i + 1 + zC (ks.take j)) - kb q.l i)).take (kb q.l (i + 1 + zC (ks.take j) + ks[j].size) - kb q.l (i + 1 + zC (ks.take j)))) fun lf => jO lf (i + 1 + zC (ks.take j)) (lvD q.l i) (lvR q.l i) r ks[j] (t0.kids.getD j [])) := zH (fun C t0 r hl h => by
    obtain ⟨un, us, uk⟩ := t0
    simp only [Tr.kids] at hl h ⊢
    have hju : j < uk.length := by omega
    rw [zLR, zLT hju]
    have h' := h
    rw [zHd hju] at h'
    refine jN.kid (nm := nm) (rp := rp) (done := ks.take j) (s := ks[j]) (todo := ks.drop (j + 1)) (A := uk.take j) (x := uk[j]) (B := uk.drop (j + 1)) (n0 := un) (s0 := us) (by rw [zLX, zLX]; omega) (by rw [← hks]; exact HSP.out) HKD.out (by rw [← hks]; simp only [Sh.size]; omega) ?_
    rw [← hks]
    exact h')
   have hAT : kb q.l (i + 1 + zC (ks.take j)) - kb q.l i ≤ 1000 := by omega
   have hmx : kb q.l (i + 1 + zC (ks.take j) + ks[j].size) - kb q.l (i + 1 + zC (ks.take j)) ≤ 1000 := by omega
   have hNJ := zDA (zCE HGL.out j hjl) ho2
   have hNJ' : 0 < kb q.l (i + 1 + zC (ks.take j) + ks[j].size) - kb q.l (i + 1 + zC (ks.take j)) := by omega
   have HCALLQ := zH (fun (sp' : List Spn) (a' : Option Addr) (c' : Nat) (W : World) (hB : BA q W false) (h1 : Sl (fun b => b < W.heap.size ∧ b ≠ q.bx) W 3 a' sp'.length c' (qV sp')) (h2 : zAB q (i + 1 + zC (ks.take j)) ks[j] sp') => HIH.out ks[j] (List.getElem_mem hjl) (i + 1 + zC (ks.take j)) sp' a' c' W false ho2 hon (zCE HGL.out j hjl) hB h1 h2)
   have HK4 := zH hk4
   have HFS : Hid (∀ t0, fsT (.mk nm rp 0 ks) t0 → t0.kids.length = ks.length ∧ qW ks[j].rep (t0.kids.getD j []).length ∧ (∀ t ∈ t0.kids.getD j [], fsT ks[j] t) ∧ t0.kids.take (j + 1) = t0.kids.take j ++ [t0.kids.getD j []]) := zH (fun t0 h => by
    rw [fsT, if_neg (by decide)] at h
    have hl := zFi h.2.2
    have hju : j < t0.kids.length := by omega
    have := zHB h.2.2 j hjl hju
    rw [zLR, zLT hju, zLW hju]
    exact ⟨hl, this.1, this.2, rfl⟩)
   have hspl2 : (kb q.l (i + 1 + zC (ks.take j)) - kb q.l i) + (kb q.l (i + 1 + zC (ks.take j) + ks[j].size) - kb q.l (i + 1 + zC (ks.take j))) ≤ sp.length := hk2
   have hon2 : ((i + 1 + zC (ks.take j) : Nat) : Int) < (q.n : Int) := by have h1 := qJ ks[j]; have h2 : q.n = q.l.length := rfl; omega
   generalize ks[j] = sj at *
   generalize i + 1 + zC (ks.take j) = o at *
   generalize kb q.l (o + sj.size) - kb q.l o = NJ at *
   generalize kb q.l o - kb q.l i = AT at *
   clear ho1 ho2 ho3 hks hon hk1 hk2 hk3 hk4 hKI hKl hmem hNJ
   have y1 : wr.cell? ⟨q.bx, 1, none⟩ = some (.slice (some ⟨q.bk, 0, none⟩) q.n q.n) := by have := HBA.out.row.cell 1; rw [this]; simp [BQ.box]
   have y6 : wr.cell? ⟨q.bx, 6, none⟩ = some (.slice (some ⟨q.bi, 0, none⟩) q.n q.n) := by have := HBA.out.row.cell 6; rw [this]; simp [BQ.box]
   have y7 : wr.cell? ⟨q.bx, 7, none⟩ = some (.bool br) := by have := HBA.out.row.cell 7; rw [this]; simp [BQ.box]
   have yf := HBA.out.row.frozen
   have yl := HBA.out.row.lt
   have ho0 : (0 : Int) ≤ (o : Int) := by omega
   have hle : ¬ (sp.length : Int) < (AT : Int) + (NJ : Int) := by omega
   have hne : ((NJ : Int) == 0) = false := by simp; omega
   cases br with
   | true =>
    have hnone : Hid (∀ C t0 r, yQ q C → fsT (.mk nm rp 0 ks) t0 → jN q C i sp (fun lf => yK lf i (lvD q.l i) (lvR q.l i) r (.mk nm rp 0 ks) t0) → ¬ bad = false) := zH (fun C t0 r h1 h2 h3 hb => by
     have := (HV.out C t0 r h1 h2 h3 hb).1
     cases this)
    have zr := (HR6.out.other (p := ⟨q.bx, 7, none⟩) (by show w.heap.size ≠ q.bx; omega) (.bool true)).set3 (u0 := .int .i64 0) (u1 := .string ByteArray.empty) (u2 := .slice (some ⟨gb, 0, none⟩) ks.length ks.length)
    have z0 := zr.cell 0; have z1 := zr.cell 1; have z2 := zr.cell 2
    simp only [pG] at z0 z1 z2
    clear zr
    go_wp2_with fail
    refine bodyPost_ret (v := .agg #[.int .i64 0, .string ByteArray.empty, .slice (some ⟨gb, 0, none⟩) ks.length ks.length]) (by simp [results, Try.results45, go_sem, z0, z1, z2]) rfl ?_
    exact HFIN.out _ _ _ true _ (HBA.out.set true) (zJH wr q.bx true) rfl rfl rfl (.inr hnone.out)
   | false =>
    obtain ⟨a', hrun, hpart⟩ := Sl.part (P := Try.prog) (t := 96) (e := 99) Try.underlying96 (info_parts zCn).choose_spec.1 (info_parts zCn).choose_spec.2.2.1 hsl .i64 .i64 (AT : Int) ((AT : Int) + (NJ : Int)) (by omega) (by omega) (by omega)
    have e1 : ((AT : Int) + (NJ : Int)).toNat - ((AT : Int)).toNat = NJ := by omega
    have e2 : ((AT : Int)).toNat = AT := by omega
    rw [e1, e2] at hrun
    rw [e1, e2, zCv] at hpart
    have hln : ((sp.drop AT).take NJ).length = NJ := by rw [zLX, List.length_drop]; omega
    generalize (sp.drop AT).take NJ = sp' at *
    have hpart' : Sl (fun b => b < wr.drew.heap.size ∧ b ≠ q.bx) wr.drew 3 a' sp'.length (c - AT) (qV sp') := by rw [hln]; exact hpart.drew
    have hcall := HCALLQ.out sp' a' (c - AT) wr.drew (HBA.out.below (b0 wr).drew) hpart' HK4.out
    rw [hln] at hcall
    have HCALL := zH hcall
    have hwrap : IntKind.i64.wrap ((AT : Int) + (NJ : Int)) = (AT : Int) + (NJ : Int) := IntWalk.i64_in _ (by omega)
    have HS2 := zH s2
    have hhl : hd.length = ks.length := by have := HO.out.len; omega
    have HHL := zH hhl
    clear e1 e2 hpart hpart' hcall hln hhl hsl HCALLQ
    go_upto_region 11 with fail
    clear s0 s1 s2 t0 t1 t2 y1 y6 y7 m0 n0
    refine zF (fun w' => w'.cell? ⟨b7, 2, none⟩ = some (.slice (some ⟨gb, 0, none⟩) ks.length ks.length)) [13] (by kernel_rfl) ?g46rgS (fun hHeld => ?g46rgR)
    case g46rgS => (try dsimp only); (first | exact HS2.out | exact hC5.keep hHeld (fun e => by have e' : b7 = q.bx := e; omega))
    try dsimp only at hHeld
    refine zD [0, 1, 2, 3, 4, 5, 6, 7, 8, 9, 10] 3 (by kernel_rfl) (fun _ _ _ _ _ h => h) (by assumption) ?_
    iterate 11 ((apply YA.take rfl (by rfl); case hy => intro w hSw; (try dsimp only at hSw); go_simp; try with_reducible rfl); try simp only [pD])
    refine YA.nil ?_
    refine zB [11] (by kernel_rfl) (by simp) ?_
    refine zA.con 11 rfl (fun K hK => ?g46ro1) ?g46rm1
    case g46rm1 => exact zA.nil
    go_simp; refine HCALL.out.mono ?_; rintro e w5 ⟨x, ax, cx, ys, br5, rfl, hsx, hrx, hB5, hC5, hcond⟩; dsimp only
    refine hK.out _ _ ?g46rs1 (fun hHeld => ?g46rt1)
    case g46rs1 => (try dsimp only); (first | exact HS2.out | exact hC5.keep hHeld (fun e => by have e' : b7 = q.bx := e; omega))
    try dsimp only at hHeld
    clear hK K
    try simp only [pD]
    refine zD [12] 1 (by kernel_rfl) (fun _ _ _ _ _ h => h) (by assumption) ?_
    iterate 1 ((apply YA.take rfl (by rfl); case hy => intro w hSw; (try dsimp only at hSw); go_simp; try with_reducible rfl); try simp only [pD])
    refine YA.nil ?_
    refine zB [13] (by kernel_rfl) (by simp) ?_
    refine zA.lst 13 rfl (by kernel_rfl) (fun K hK => ?g46ro2) ?g46rm2
    case g46rm2 => exact zA.nil
    (have hown5 := HO.out.drew.chg hC5 (fun k ⟨_, _, h⟩ e => by cases h; have e' : gb = q.bx := e; omega)); (obtain ⟨gg, hga, _, hgl, hgc, hgf⟩ := hown5.pos (by omega)); cases hga; (have hjh : j < hd.length := by rw [HHL.out]; exact hjl); (have v0 := hgc j hd[j] (zLT hjh)); go_simp
    refine hK.out _ _ ?_
    clear hK K
    try simp only [pD]
    refine zE (by kernel_rfl) ?_
    clear hHeld hrun hwrap
    have hC5w : Chg (fun b => b = q.bx) wr w5 := ((Chg.refl (fun b => b = q.bx) wr).drew).trans hC5 (fun _ _ h => h)
    have hz5 : wr.heap.size ≤ w5.heap.size := hC5w.size
    have HV2 : Hid (zKF q i (.mk nm rp 0 ks) sp bad br5 (A ++ [x]) (j + 1)) := zH (fun C t0 r h1 h2 h3 hb => by
     obtain ⟨g1, g2⟩ := HV.out C t0 r h1 h2 h3 hb
     obtain ⟨f1, f2, f3, f4⟩ := HFS.out t0 h2
     obtain ⟨e1, e2⟩ := hcond C (t0.kids.getD j []) r (lvD q.l i) (lvR q.l i) h1 f2 f3 HPAR.out.1 HPAR.out.2 (HCE.out C t0 r f1 h3) rfl
     exact ⟨e1, by rw [f4, g2, e2]⟩)
    have k5 := HK.out.go (ok' := fun b => w3.heap.size ≤ b) hC5w (fun k _ h => ⟨fun e => by have e' : k = q.bx := e; omega, h⟩)
    have hal := HAL.out
    have ks5 := yO.set (x := x) (a := ax) (m := x.length) (cap := cx) rfl (hsx.mono (ok' := fun b => w3.heap.size ≤ b) (fun k _ h => by have h' : wr.heap.size ≤ k := h; omega) (by decide)) (hrx.go (Chg.refl (fun _ => False) w5) (fun k _ h => ⟨fun h => h, by have h' : wr.heap.size ≤ k := h; omega⟩)) j k5 (by rw [zLU, zL2]; omega)
    rw [zDL hal hjl] at ks5
    have HKN := zH (ks5.go (ok' := fun b => w3.heap.size ≤ b) (zCV w5 gb j (.slice ax x.length cx)) (fun k _ h => ⟨fun e => by have e' : k = gb := e; omega, h⟩))
    have HON := zH (hown5.stored rfl j (.slice ax x.length cx))
    have HBN := zH (hB5.other (zCV w5 gb j (.slice ax x.length cx)) (fun k hk e => by
     have e' : k = gb := e
     rcases hk with hk | hk <;> omega))
    have HCN := zH ((HC.out.trans (S' := fun b => b = q.bx) hC5w (fun k _ h => .inl h)).setCell (p := ⟨gb, j, none⟩) (.inr (.inr rfl)) (.slice ax x.length cx))
    clear hown5 hgl hgc hgf v0 hB5 hC5 hcond hsx hrx k5 ks5 hC5w hal hjh
    go_wp2_with fail
    go_roundw
    case rel => exact ⟨j + 1, br5, A ++ [x], hd.set j (.slice ax x.length cx), by rw [HNX.out]; go_num, by go_num, by omega, by rw [zLU, HAL.out]; rfl, HBN, HON, HKN, HCN, HV2⟩
    case measure => simp [intOf]; omega
end Go.Proofs.Ytjbkjfefjhbolaa
