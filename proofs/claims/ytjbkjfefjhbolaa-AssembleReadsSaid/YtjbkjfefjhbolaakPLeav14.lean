import Derived.Test.YtjbkjfefjhbolaakCol14S
set_option linter.all false
open Array renaming getElem?_setIfInBounds_ne → zLP, getElem?_eq_getElem → zLQ, getElem?_setIfInBounds_self_of_lt → zLS
open List renaming length_singleton → zLR, length_append → zLT
namespace Go.Proofs.Ytjbkjfefjhbolaa
open Go.RowKit Go.Shr
theorem qM {P : Program} (t e : TypeId) (z : Value) (bytes size : Nat) (ht : P.underlying t = some (.slice e)) (hinfo : (P.info? e).map (fun i => (i.zero, i.size, i.bytes)) = some (some z, size, bytes))
  (kl kc : IntKind) (n : Nat) (hbytes : bytes * n ≤ 281474976710656) (h63 : n ≤ 9223372036854775807) (w : World) :
  (Instr.makeSlice t (.int kl (n : Int)) (.int kc (n : Int))).run P w = .ok (.slice (some ⟨w.heap.size, 0, none⟩) n n) (w.alloc (.cells (madeCells z.cells (n * size)) e)) := by
 obtain ⟨i, hi, hzz⟩ := Option.map_eq_some_iff.1 hinfo
 simp only [Prod.mk.injEq] at hzz
 obtain ⟨hz, hs, hb⟩ := hzz
 have hb' : (i.bytes : Int) * (n : Int) ≤ 281474976710656 := by
  have h : ((i.bytes * n : Nat) : Int) ≤ 281474976710656 := by rw [hb]; omega
  rwa [Int.natCast_mul] at h
 have hr := run_make (P := P) w t e i z ht hi hz kl kc n n (by omega) (Int.le_refl _) hb' (by omega)
 simp only [Int.toNat_natCast, hs] at hr
 exact hr
theorem zJi (ok : Nat → Prop) (a : Option Addr) (n cap : Nat) (xs : List Value) (w : World) (h : Sl ok w 4 a n cap xs) (hx : ∀ u ∈ xs, u.oneCell' = true) (hn : n ≤ 1000000) :
  Calls Try.prog 40 #[.slice a n cap] w fun e w' => ∃ a' cap', e = .returned (.slice a' n cap') ∧ Own w.heap.size w' 52 4 a' n cap' xs ∧ Below w.heap.size w w' := by
 have hnil := fun (w : World) => Lib.run_eql_slice_nil (P := Try.prog) w 49 52 a n cap 0 0 Try.underlying49
 obtain ⟨i0, hi, hz0, hz1, hz2⟩ := info_parts zCo
 rcases a with _ | a
 ·have h0 : n = 0 := by rcases h.row with h0 | ⟨_, _, h1, _⟩; exact h0; cases h1
  subst h0
  have hx0 : xs = [] := List.eq_nil_of_length_eq_zero (by simpa using h.len)
  subst hx0
  have H := zH h; clear h hx
  go_enter Try.func40, Try.ntmps40
  go_wp2
  go_ret
  exact ⟨none, 0, rfl, Own.nil _ _ _ _, Below.refl _ _⟩
 ·have hs := (h.alloc (.cells #[] 52)).src (P := Try.prog) (tx := 49) Try.underlying49 hx
  have HS := zH hs; clear hs h hx
  go_enter Try.func40, Try.ntmps40
  go_wp2_with (at_builtin; refine zI (B := w.heap.size) rfl _ _ _ _ rfl i0 (.agg #[.int .i64 0, .int .i64 0, .int .i64 0, .int .i64 0]) 32 Try.underlying49 hi hz0 hz1 hz2 rfl rfl (Own.bare _ _ _ _ _) _ rfl _ _ HS.out (by simp only [maxLen]; omega) (by omega) (by simp) ?_; intro a' cap' w' hown hchg hnew)
  go_ret
  exact ⟨a', cap', by simp, by simpa using hown, ((Below.refl _ _).alloc (Nat.le_refl _) _).trans (hchg.below (by simp) (fun i hi ⟨_, h2⟩ => by omega))⟩
theorem zJ3 (l : List Fl) (q : List Nat) : ∀ u ∈ lvs l q, u.oneCell' = true := by
 intro u hu
 simp only [lvs, List.mem_flatMap, List.mem_cons, List.not_mem_nil, or_false] at hu
 obtain ⟨d, _, rfl | rfl | rfl | rfl⟩ := hu <;> rfl
theorem yE {P : Program} {c : Code} {Q : Exit → Act → World → Prop} {a : Act} {W : World} (h : ∀ W', W' = W → Code.wp P c Q a W') : Code.wp P c Q a W := h W rfl
def zIx (l : List Fl) (i : Nat) (cur : Array Value) : Prop := cur.size = l.length * 4 ∧ ∀ k, k < i → cur[k * 4 + 1]? = some (.int .i64 (lvR l k : Int)) ∧ cur[k * 4 + 2]? = some (.int .i64 (lvD l k : Int))
theorem zIx.set {l : List Fl} {i : Nat} {cur : Array Value} (h : zIx l i cur) (hi : i < l.length) (v0 v3 : Value) :
  zIx l (i + 1) ((((cur.setIfInBounds (i * 4) v0).setIfInBounds (i * 4 + 1) (.int .i64 (lvR l i : Int))).setIfInBounds (i * 4 + 2) (.int .i64 (lvD l i : Int))).setIfInBounds (i * 4 + 3) v3) := by
 refine ⟨by simpa using h.1, fun k hk => ?_⟩
 have hs := h.1
 by_cases hki : k = i
 ·subst hki
  constructor
  ·rw [zLP (by omega), zLP (by omega), zLS (by simp; omega)]
  ·rw [zLP (by omega), zLS (by simp; omega)]
 ·have := h.2 k (by omega)
  constructor
  ·rw [zLP (by omega), zLP (by omega), zLP (by omega), zLP (by omega)]; exact this.1
  ·rw [zLP (by omega), zLP (by omega), zLP (by omega), zLP (by omega)]; exact this.2
set_option maxHeartbeats 1000000 in
set_option maxRecDepth 100000 in
theorem zEp (sa : Option Addr) (sc : Nat) (l : List Fl) (w : World) (hs : Sl (fun b => b < w.heap.size) w 4 sa l.length sc (fls l)) (hn : l.length ≤ 1000) (hkid : ∀ x ∈ l, x.kids ≤ 1000) (hrp : ∀ x ∈ l, x.rep = 0 ∨ x.rep = 1 ∨ x.rep = 2) :
  Calls Try.prog 26 #[.slice sa l.length sc] w fun e w' => ∃ a c, e = .returned (.slice a (zG l l.length).length c) ∧ Own w.heap.size w' 52 4 a (zG l l.length).length c (lvs l (zG l l.length)) ∧ Below w.heap.size w w' := by
 obtain ⟨iL, hiL, hz0L, hz1L, hz2L⟩ := info_parts zCo
 have hmk := fun w => qM (P := Try.prog) 49 52 _ 32 4 Try.underlying49 zCo .i64 .i64 l.length (by omega) (by omega) w
 have HPL := zH (zW l)
 have HS := zH hs; have HK := zH hkid; have HRP := zH hrp
 clear hs hkid hrp
 go_enter Try.func26, Try.ntmps26
 go_wp2_with fail
 refine (zGJ sa l.length sc l w HS.out hn HK.out).mono ?_
 rintro e w1 ⟨aP, cP, rfl, oP, hb1⟩
 have HP := zH (oP.sl.mono (ok' := fun b => b < w1.heap.size) (fun k hk _ => hk) (by decide))
 have HB1 := zH hb1
 clear oP hb1
 go_upto_region 4 with fail
 refine yE (fun w2 hw2 => ?_)
 have hb2 : Below w1.heap.size w1 w2 := by rw [hw2]; exact ba (b0 w1) _
 have rL : Rw w2 w1.heap.size (madeCells (Value.agg #[.int .i64 0, .int .i64 0, .int .i64 0, .int .i64 0]).cells (l.length * 4)) 52 := by rw [hw2]; exact Rw.new w1 _ _
 have hz2 : w2.heap.size = w1.heap.size + 1 := by rw [hw2]; simp
 clear hw2 hmk
 have RL := zH rL; have HB2 := zH hb2
 obtain ⟨U, hU⟩ : ∃ U, U = w1.heap.size := ⟨_, rfl⟩
 rw [← hU] at RL ⊢
 have hUl : U < w2.heap.size := by omega
 have hU1 : w1.heap.size ≤ U := by omega
 have hU2 : w.heap.size ≤ w1.heap.size := HB1.out.size
 clear rL hb2 hz2 hU
 go_wp2_with fail
 go_loopw [5, 17] (fun vo iv wr => ∃ (i : Nat) (aO : Option Addr) (cO : Nat) (cur : Array Value), vo = .slice aO (zG l i).length cO ∧ iv = .int .i64 (i : Int) ∧ i ≤ l.length ∧ Hid (Own w2.heap.size wr 52 4 aO (zG l i).length cO (lvs l (zG l i))) ∧ Hid (Rw wr U cur 52) ∧ Hid (zIx l i cur) ∧ Hid (Chg (fun b => b = U) w2 wr)) (fun _ iv _ => l.length - (intOf iv).toNat)
 case atStart => exact ⟨0, none, 0, _, rfl, rfl, Nat.zero_le _, zH (Own.nil _ _ _ _), RL, zH ⟨by simp [madeCells], fun k hk => by omega⟩, zH (Chg.refl _ _)⟩
 case round =>
  clear RL
  obtain ⟨i, aO, cO, cur, rfl, rfl, hi, HO, RU, HLV, HC⟩ := hrel
  have hszr := HC.out.size
  have hbWr : Below w1.heap.size w1 wr := Chg.bt HB2.out HC.out (fun b hb e => by have e' : b = U := e; omega)
  by_cases hil : i < l.length
  ·have HSW := zH (slb HS.out (bt HB1.out hbWr))
   have HPW := zH (slb HP.out hbWr)
   obtain ⟨bs, os, rfl, hbs, hsc⟩ := HSW.out.pos (by omega)
   obtain ⟨bp, op, rfl, hbp, hpc⟩ := HPW.out.pos (by omega)
   obtain ⟨f0, f1, f2, f3⟩ := yB l i hil
   have a0 := hsc _ _ f0; have a1 := hsc _ _ f1; have a2 := hsc _ _ f2; have a3 := hsc _ _ f3
   rw [← Nat.add_assoc] at a1 a2 a3
   have hki : i < (par l).length := by rw [HPL.out]; exact hil
   have p0 := hpc _ _ (zO (par l) i hki)
   have hqb := yI l i hki
   have hrep := HRP.out _ (List.getElem_mem hil)
   have HFN : Hid (flN l i = l[i]) := zH (qS hil)
   have hlv : lvR l i = zAj l (yD (par l) (par l)[i]) + rmI l[i].rep ∧ lvD l i = zBh l (yD (par l) (par l)[i]) + dmI l[i].rep := by
    unfold lvR lvD
    rw [xU (fun j hj => yI l j hj) hki, jI, zAq, HFN.out]
    unfold rmI dmI
    constructor
    ·split <;> omega
    ·split <;> omega
   have hlR : lvR l i ≤ 1000 := by have := zAE l (Go.Shr.chain (par l) i); have := xJ (par l) i; unfold lvR; omega
   have hlD : lvD l i ≤ 1000 := by have := zCp l (Go.Shr.chain (par l) i); have := xJ (par l) i; unfold lvD; omega
   have HKD : Hid ((flN l i).kind = l[i].kind) := zH (by rw [HFN.out])
   generalize (par l)[i] = pi at *
   generalize l[i] = x at *
   obtain ⟨nm, rp, kd, kk⟩ := x
   dsimp only at a0 a1 a2 a3 hrep hlv HKD
   clear f0 f1 f2 f3 hsc hpc HFN
   go_upto_region 8 with fail
   refine yE (fun wz hwz => ?_)
   have hbz : Below wr.heap.size wr wz := by rw [hwz]; exact ba (ba (b0 wr) _) _
   have r7 : Rw wz wr.heap.size #[.string nm, .int .i64 rp, .int .i64 kd, .int .i64 kk] 62 := by rw [hwz]; exact (Rw.new wr _ _).alloc _
   have r8 : Rw wz (wr.heap.size + 1) #[.int .i64 (i : Int), .int .i64 ((0 : Nat) : Int), .int .i64 ((0 : Nat) : Int), .int .i64 kd] 52 := by rw [hwz]; exact Rw.new' (by simp)
   clear hwz
   replace p0 := cb hbz p0
   obtain ⟨B8, hB8⟩ : ∃ B8, B8 = wr.heap.size + 1 := ⟨_, rfl⟩
   rw [← hB8] at r8 ⊢
   have hB78 : wr.heap.size ≠ B8 := by omega
   have hUw : U < wr.heap.size := by omega
   have hBU : U ≠ B8 := by omega
   have hBU7 : U ≠ wr.heap.size := by omega
   have hB8r : wr.heap.size ≤ B8 := by omega
   have hwz8 := r8.lt
   clear hB8 a0 a1 a2 a3
   have HCUT : Hid (∃ r0 d0 : Nat, lvR l i = r0 + rmI rp ∧ lvD l i = d0 + dmI rp ∧ r0 = zAj l (yD (par l) pi) ∧ d0 = zBh l (yD (par l) pi)) := zH ⟨_, _, hlv.1, hlv.2, rfl, rfl⟩
   clear hlv
   by_cases hp : pi < 0
   ·have hpb : ¬ pi ≥ 0 := by omega
    obtain ⟨r0, d0, e1, e2, e3, e4⟩ := HCUT.out
    rw [qC _ hp] at e3 e4
    have e3' : r0 = 0 := e3
    have e4' : d0 = 0 := e4
    replace r8 : Rw wz B8 #[.int .i64 (i : Int), .int .i64 (r0 : Int), .int .i64 (d0 : Int), .int .i64 kd] 52 := by rw [e3', e4']; exact r8
    clear hp e3 e4 e3' e4'
    go_upto_region 11 with fail
    obtain ⟨X, hX⟩ : ∃ X, X = wz := ⟨_, rfl⟩
    rw [← hX] at r8 r7 hbz ⊢
    clear hX p0
    have hbx := hbz
    have hr0 : r0 ≤ 1000 := by omega
    have hd0 : d0 ≤ 1000 := by omega
    have x1 : X.cell? ⟨B8, 1, none⟩ = some (.int .i64 (r0 : Int)) := r8.cell 1
    have x2 : X.cell? ⟨B8, 2, none⟩ = some (.int .i64 (d0 : Int)) := r8.cell 2
    have x7 : X.cell? ⟨wr.heap.size, 1, none⟩ = some (.int .i64 rp) := r7.cell 1
    have qf := r8.frozen
    have ql := r8.lt
    have H8X := zH r8; have H7X := zH r7; have HBX := zH hbx
    have E1 := zH e1; have E2 := zH e2
    clear r8 r7 hbx e1 e2
    rcases hrep with hq | hq | hq
    all_goals
     first | (have hb2 : (rp == 2) = true := by rw [hq]; rfl) | (have hb2 : (rp == 2) = false := by rw [hq]; rfl)
     first | (have hb0 : (rp != 0) = true := by rw [hq]; rfl) | (have hb0 : (rp != 0) = false := by rw [hq]; rfl)
     have HQ := zH hq
     clear hq
     go_upto_region 15 with fail
     refine yE (fun Y hY => ?_)
     have r8y : Rw Y B8 #[.int .i64 (i : Int), .int .i64 (lvR l i : Int), .int .i64 (lvD l i : Int), .int .i64 kd] 52 := by
      rw [hY, E1.out, E2.out, HQ.out]
      first | exact H8X.out | exact H8X.out.set 2 _ | exact (H8X.out.set 1 _).set 2 _
     have r7y : Rw Y wr.heap.size #[.string nm, .int .i64 rp, .int .i64 kd, .int .i64 kk] 62 := by
      rw [hY]
      first | exact H7X.out | exact H7X.out.other (p := ⟨B8, 2, none⟩) hB78 _ | exact (H7X.out.other (p := ⟨B8, 1, none⟩) hB78 _).other (p := ⟨B8, 2, none⟩) hB78 _
     have hby : Below wr.heap.size wr Y := by
      rw [hY]
      first | exact HBX.out | exact HBX.out.setCell (p := ⟨B8, 2, none⟩) hB8r _ | exact (HBX.out.setCell (p := ⟨B8, 1, none⟩) hB8r _).setCell (p := ⟨B8, 2, none⟩) hB8r _
     clear hY x1 x2 x7 qf ql
     have hsz := HLV.out.1
     have rUY := RU.out.below hby
     have y0 : Y.cell? ⟨B8, 0, none⟩ = some (.int .i64 (i : Int)) := r8y.cell 0
     have y1 : Y.cell? ⟨B8, 1, none⟩ = some (.int .i64 (lvR l i : Int)) := r8y.cell 1
     have y2 : Y.cell? ⟨B8, 2, none⟩ = some (.int .i64 (lvD l i : Int)) := r8y.cell 2
     have y3 : Y.cell? ⟨B8, 3, none⟩ = some (.int .i64 kd) := r8y.cell 3
     have v0 := (rUY.cell (i * 4)).trans (zLQ (show i * 4 < cur.size by omega))
     have v1 := (rUY.cell (i * 4 + 1)).trans (zLQ (show i * 4 + 1 < cur.size by omega))
     have v2 := (rUY.cell (i * 4 + 2)).trans (zLQ (show i * 4 + 2 < cur.size by omega))
     have v3 := (rUY.cell (i * 4 + 3)).trans (zLQ (show i * 4 + 3 < cur.size by omega))
     have vf := rUY.frozen
     have vl := rUY.lt
     have HLVZ := zH (HLV.out.set hil (.int .i64 (i : Int)) (.int .i64 kd))
     have R8 := zH r8y; have R7 := zH r7y; have HBY := zH hby; have RUY := zH rUY
     have hi0 : (0 : Int) ≤ (i : Int) := by omega
     have hi1 : (i : Int) < (l.length : Int) := by omega
     have hls : lvs l (zG l i ++ [i]) = lvs l (zG l i) ++ [.int .i64 (i : Int), .int .i64 (lvR l i : Int), .int .i64 (lvD l i : Int), .int .i64 (flN l i).kind] := zCg l _ i
     rw [HKD.out] at hls
     have HLS := zH hls
     generalize lvR l i = R at *
     generalize lvD l i = D at *
     clear r8y r7y hby rUY hls E1 E2 hlR hlD HCUT
     go_upto_region 16 with fail
     refine yE (fun Z hZ => ?_)
     have rUZ : Rw Z U ((((cur.setIfInBounds (i * 4) (.int .i64 (i : Int))).setIfInBounds (i * 4 + 1) (.int .i64 (R : Int))).setIfInBounds (i * 4 + 2) (.int .i64 (D : Int))).setIfInBounds (i * 4 + 3) (.int .i64 kd)) 52 := by rw [hZ]; exact (((RUY.out.set _ _).set _ _).set _ _).set _ _
     have r7z : Rw Z wr.heap.size #[.string nm, .int .i64 rp, .int .i64 kd, .int .i64 kk] 62 := by rw [hZ]; exact (((R7.out.other (p := ⟨U, i * 4, none⟩) hBU7.symm _).other (p := ⟨U, i * 4 + 1, none⟩) hBU7.symm _).other (p := ⟨U, i * 4 + 2, none⟩) hBU7.symm _).other (p := ⟨U, i * 4 + 3, none⟩) hBU7.symm _
     have r8z : Rw Z B8 #[.int .i64 (i : Int), .int .i64 (R : Int), .int .i64 (D : Int), .int .i64 kd] 52 := by rw [hZ]; exact (((R8.out.other (p := ⟨U, i * 4, none⟩) hBU.symm _).other (p := ⟨U, i * 4 + 1, none⟩) hBU.symm _).other (p := ⟨U, i * 4 + 2, none⟩) hBU.symm _).other (p := ⟨U, i * 4 + 3, none⟩) hBU.symm _
     have hoz : Own w2.heap.size Z 52 4 aO (zG l i).length cO (lvs l (zG l i)) := by rw [hZ]; exact ((((HO.out.below HBY.out).setBelow (p := ⟨U, i * 4, none⟩) hUl _).setBelow (p := ⟨U, i * 4 + 1, none⟩) hUl _).setBelow (p := ⟨U, i * 4 + 2, none⟩) hUl _).setBelow (p := ⟨U, i * 4 + 3, none⟩) hUl _
     have hcz : Chg (fun b => b = U) w2 Z := by rw [hZ]; exact ((((HC.out.trans (Chg.ofBelow HBY.out) (fun i hi h => by omega)).setCell (p := ⟨U, i * 4, none⟩) (.inr rfl) _).setCell (p := ⟨U, i * 4 + 1, none⟩) (.inr rfl) _).setCell (p := ⟨U, i * 4 + 2, none⟩) (.inr rfl) _).setCell (p := ⟨U, i * 4 + 3, none⟩) (.inr rfl) _
     clear hZ y0 y1 y2 y3 v0 v1 v2 v3 vf vl hsz
     have k2 : Z.cell? ⟨wr.heap.size, 2, none⟩ = some (.int .i64 kd) := r7z.cell 2
     have y0 : Z.cell? ⟨B8, 0, none⟩ = some (.int .i64 (i : Int)) := r8z.cell 0
     have y1 : Z.cell? ⟨B8, 1, none⟩ = some (.int .i64 (R : Int)) := r8z.cell 1
     have y2 : Z.cell? ⟨B8, 2, none⟩ = some (.int .i64 (D : Int)) := r8z.cell 2
     have y3 : Z.cell? ⟨B8, 3, none⟩ = some (.int .i64 kd) := r8z.cell 3
     have RUZ := zH rUZ; have HOZ := zH hoz; have HCZ := zH hcz
     have hczs := hcz.size
     have hll : (zG l i).length ≤ i := yW
     clear rUZ r7z r8z hoz hcz R8 R7 RUY HBY
     by_cases hk0 : kd = 0
     ·have hkb : (kd != 0) = false := by simp [hk0]
      have HLN := zH (jC (l := l) (m := i) (by rw [HKD.out]; exact hk0))
      clear hk0
      go_wp2_with fail
      go_roundw
      case rel => exact ⟨i + 1, aO, cO, _, by rw [HLN.out], by go_num, by omega, zH (by rw [HLN.out]; exact HOZ.out), RUZ, HLVZ, HCZ⟩
      case measure => simp [intOf]; omega
     ·have hkb : (kd != 0) = true := by simp [hk0]
      have HLY := zH (xQ (l := l) (m := i) (by rw [HKD.out]; exact hk0))
      clear hk0
      have tok1 : True := trivial
      go_wp2_with (first | (at_builtin; have _t := tok1; clear tok1; clear _t; refine zI (B := w2.heap.size) rfl _ _ _ _ rfl iL (.agg #[.int .i64 0, .int .i64 0, .int .i64 0, .int .i64 0]) 32 Try.underlying49 hiL hz0L hz1L hz2L rfl rfl (HOZ.out.alloc _) _ rfl _ _ (zP (e' := 52) Try.underlying49 Z #[.int .i64 (i : Int), .int .i64 (R : Int), .int .i64 (D : Int), .int .i64 kd] 52 1 4 rfl (by simp [Value.oneCell'])) (by simp only [maxLen]; omega) (by omega) (by first | omega | (simp; omega) | simp) ?_; intro a5 cap5 w5 ho5 hc5 hn5); (have HO5 := zH ho5); (have HC5 := zH hc5); clear ho5 hc5 hn5)
      go_roundw
      case rel => exact ⟨i + 1, a5, cap5, _, by rw [HLY.out, zLT, zLR], by go_num, by omega, zH (by rw [HLY.out, HLS.out, zLT, zLR]; exact HO5.out), zH ((RUZ.out.alloc _).chg HC5.out (fun h => by have := h.2.1; omega)), HLVZ, zH ((HCZ.out.alloc _).trans HC5.out (fun b hb h => by have := h.2.1; omega))⟩
      case measure => simp [intOf]; omega
   ·have hpb : pi ≥ 0 := by omega
    obtain ⟨k, rfl⟩ : ∃ k : Nat, pi = k := ⟨pi.toNat, by omega⟩
    have hk : k < i := by omega
    obtain ⟨r0, d0, e1, e2, e3, e4⟩ := HCUT.out
    rw [yF] at e3 e4
    have hlk := HLV.out.2 k hk
    have u1 : wz.cell? ⟨U, k * 4 + 1, none⟩ = some (.int .i64 (r0 : Int)) := ((RU.out.below hbz).cell _).trans (by rw [e3]; exact hlk.1)
    have u2 : wz.cell? ⟨U, k * 4 + 2, none⟩ = some (.int .i64 (d0 : Int)) := ((RU.out.below hbz).cell _).trans (by rw [e4]; exact hlk.2)
    have HU := zH (And.intro u1 u2)
    have hcur : cur[k * 4 + 1]? = some (.int .i64 (r0 : Int)) ∧ cur[k * 4 + 2]? = some (.int .i64 (d0 : Int)) := ⟨by rw [e3]; exact hlk.1, by rw [e4]; exact hlk.2⟩
    have HRU := zH (RU.out.below hbz)
    have hk0 : (0 : Int) ≤ (k : Int) := by omega
    have hk1 : (k : Int) < (l.length : Int) := by omega
    have H8 := zH r8; have H7 := zH r7; have HBZ := zH hbz
    clear e3 e4 hlk hp u1 u2 r7 r8 hbz
    go_wp2_with fail
    refine zF (fun w' => w'.cell? ⟨U, k * 4 + 1, none⟩ = some (.int .i64 (r0 : Int)) ∧ w'.cell? ⟨U, k * 4 + 2, none⟩ = some (.int .i64 (d0 : Int))) [12, 13] (by kernel_rfl) ?g11rgS (fun hHeld => ?g11rgR)
    case g11rgS => (try dsimp only); (first | exact HU.out | exact ⟨(rU.cell _).trans hcur.1, (rU.cell _).trans hcur.2⟩)
    try dsimp only at hHeld
    obtain ⟨W, hW⟩ : ∃ W', W' = wz.drew := ⟨_, rfl⟩; rw [← hW] at hHeld ⊢; (have r8 := Rw.ren hW H8.out.drew); (have r7 := Rw.ren hW H7.out.drew); (have hbz : Below wr.heap.size wr W := by rw [hW]; exact HBZ.out.drew); (replace HRU := zH (Rw.ren hW HRU.out.drew)); clear hW
    refine zD [0, 1, 2, 3, 4, 5, 6, 7, 8, 9, 10] 3 (by kernel_rfl) (fun _ _ _ _ _ h => h) (by assumption) ?_
    iterate 11 ((apply YA.take rfl (by rfl); case hy => rintro w ⟨s1, s2⟩; go_simp; try with_reducible rfl); try simp only [pD])
    refine YA.nil ?_
    refine zB [11] (by kernel_rfl) (by simp) ?_
    refine zA.con 11 rfl (fun K hK => ?g11ro1) ?g11rm1
    case g11rm1 => exact zA.nil
    (have rU := HRU.out.other (p := ⟨B8, 1, none⟩) hBU (.int .i64 (r0 : Int))); (have y1 := r8.cell 1); (have qf := r8.frozen); (have ql := r8.lt); go_simp; (have r81 := r8.set 1 (.int .i64 (r0 : Int))); (have r71 := r7.other (p := ⟨B8, 1, none⟩) hB78 (.int .i64 (r0 : Int))); (have hb1 := hbz.setCell (p := ⟨B8, 1, none⟩) hB8r (.int .i64 (r0 : Int))); clear y1 qf ql
    refine hK.out _ _ ?g11rs1 (fun hHeld => ?g11rt1)
    case g11rs1 => (try dsimp only); (first | exact HU.out | exact ⟨(rU.cell _).trans hcur.1, (rU.cell _).trans hcur.2⟩)
    try dsimp only at hHeld
    clear hK K
    try simp only [pD]
    refine zB [12] (by kernel_rfl) (by simp) ?_
    refine zA.lst 12 rfl (by kernel_rfl) (fun K hK => ?g11ro2) ?g11rm2
    case g11rm2 => exact zA.nil
    go_simp
    refine hK.out _ _ ?_
    clear hK K
    try simp only [pD]
    refine zB [13] (by kernel_rfl) (by simp) ?_
    refine zA.lst 13 rfl (by kernel_rfl) (fun K hK => ?g11ro3) ?g11rm3
    case g11rm3 => exact zA.nil
    (have y2 := r81.cell 2); (have qf := r81.frozen); (have ql := r81.lt); go_simp; (have r82 := r81.set 2 (.int .i64 (d0 : Int))); (have r72 := r71.other (p := ⟨B8, 2, none⟩) hB78 (.int .i64 (d0 : Int))); (have hb2 := hb1.setCell (p := ⟨B8, 2, none⟩) hB8r (.int .i64 (d0 : Int))); clear y2 qf ql
    refine hK.out _ _ ?_
    clear hK K
    try simp only [pD]
    refine zE (by kernel_rfl) ?_
    clear hHeld rU
    go_upto_region 11 with fail
    obtain ⟨X, hX⟩ : ∃ X, X = (W.setCell ⟨B8, 1, none⟩ (.int .i64 (r0 : Int))).setCell ⟨B8, 2, none⟩ (.int .i64 (d0 : Int)) := ⟨_, rfl⟩
    rw [← hX] at r82 r72 hb2 ⊢
    clear hX p0
    have r8 : Rw X B8 #[.int .i64 (i : Int), .int .i64 (r0 : Int), .int .i64 (d0 : Int), .int .i64 kd] 52 := r82
    have r7 := r72
    have hbx := hb2
    clear r82 r72 hb2 r81 r71 hb1
    have hr0 : r0 ≤ 1000 := by omega
    have hd0 : d0 ≤ 1000 := by omega
    have x1 : X.cell? ⟨B8, 1, none⟩ = some (.int .i64 (r0 : Int)) := r8.cell 1
    have x2 : X.cell? ⟨B8, 2, none⟩ = some (.int .i64 (d0 : Int)) := r8.cell 2
    have x7 : X.cell? ⟨wr.heap.size, 1, none⟩ = some (.int .i64 rp) := r7.cell 1
    have qf := r8.frozen
    have ql := r8.lt
    have H8X := zH r8; have H7X := zH r7; have HBX := zH hbx
    have E1 := zH e1; have E2 := zH e2
    clear r8 r7 hbx e1 e2
    rcases hrep with hq | hq | hq
    all_goals
     first | (have hb2 : (rp == 2) = true := by rw [hq]; rfl) | (have hb2 : (rp == 2) = false := by rw [hq]; rfl)
     first | (have hb0 : (rp != 0) = true := by rw [hq]; rfl) | (have hb0 : (rp != 0) = false := by rw [hq]; rfl)
     have HQ := zH hq
     clear hq
     go_upto_region 15 with fail
     refine yE (fun Y hY => ?_)
     have r8y : Rw Y B8 #[.int .i64 (i : Int), .int .i64 (lvR l i : Int), .int .i64 (lvD l i : Int), .int .i64 kd] 52 := by
      rw [hY, E1.out, E2.out, HQ.out]
      first | exact H8X.out | exact H8X.out.set 2 _ | exact (H8X.out.set 1 _).set 2 _
     have r7y : Rw Y wr.heap.size #[.string nm, .int .i64 rp, .int .i64 kd, .int .i64 kk] 62 := by
      rw [hY]
      first | exact H7X.out | exact H7X.out.other (p := ⟨B8, 2, none⟩) hB78 _ | exact (H7X.out.other (p := ⟨B8, 1, none⟩) hB78 _).other (p := ⟨B8, 2, none⟩) hB78 _
     have hby : Below wr.heap.size wr Y := by
      rw [hY]
      first | exact HBX.out | exact HBX.out.setCell (p := ⟨B8, 2, none⟩) hB8r _ | exact (HBX.out.setCell (p := ⟨B8, 1, none⟩) hB8r _).setCell (p := ⟨B8, 2, none⟩) hB8r _
     clear hY x1 x2 x7 qf ql
     have hsz := HLV.out.1
     have rUY := RU.out.below hby
     have y0 : Y.cell? ⟨B8, 0, none⟩ = some (.int .i64 (i : Int)) := r8y.cell 0
     have y1 : Y.cell? ⟨B8, 1, none⟩ = some (.int .i64 (lvR l i : Int)) := r8y.cell 1
     have y2 : Y.cell? ⟨B8, 2, none⟩ = some (.int .i64 (lvD l i : Int)) := r8y.cell 2
     have y3 : Y.cell? ⟨B8, 3, none⟩ = some (.int .i64 kd) := r8y.cell 3
     have v0 := (rUY.cell (i * 4)).trans (zLQ (show i * 4 < cur.size by omega))
     have v1 := (rUY.cell (i * 4 + 1)).trans (zLQ (show i * 4 + 1 < cur.size by omega))
     have v2 := (rUY.cell (i * 4 + 2)).trans (zLQ (show i * 4 + 2 < cur.size by omega))
     have v3 := (rUY.cell (i * 4 + 3)).trans (zLQ (show i * 4 + 3 < cur.size by omega))
     have vf := rUY.frozen
     have vl := rUY.lt
     have HLVZ := zH (HLV.out.set hil (.int .i64 (i : Int)) (.int .i64 kd))
     have R8 := zH r8y; have R7 := zH r7y; have HBY := zH hby; have RUY := zH rUY
     have hi0 : (0 : Int) ≤ (i : Int) := by omega
     have hi1 : (i : Int) < (l.length : Int) := by omega
     have hls : lvs l (zG l i ++ [i]) = lvs l (zG l i) ++ [.int .i64 (i : Int), .int .i64 (lvR l i : Int), .int .i64 (lvD l i : Int), .int .i64 (flN l i).kind] := zCg l _ i
     rw [HKD.out] at hls
     have HLS := zH hls
     generalize lvR l i = R at *
     generalize lvD l i = D at *
     clear r8y r7y hby rUY hls E1 E2 hlR hlD HCUT
     go_upto_region 16 with fail
     refine yE (fun Z hZ => ?_)
     have rUZ : Rw Z U ((((cur.setIfInBounds (i * 4) (.int .i64 (i : Int))).setIfInBounds (i * 4 + 1) (.int .i64 (R : Int))).setIfInBounds (i * 4 + 2) (.int .i64 (D : Int))).setIfInBounds (i * 4 + 3) (.int .i64 kd)) 52 := by rw [hZ]; exact (((RUY.out.set _ _).set _ _).set _ _).set _ _
     have r7z : Rw Z wr.heap.size #[.string nm, .int .i64 rp, .int .i64 kd, .int .i64 kk] 62 := by rw [hZ]; exact (((R7.out.other (p := ⟨U, i * 4, none⟩) hBU7.symm _).other (p := ⟨U, i * 4 + 1, none⟩) hBU7.symm _).other (p := ⟨U, i * 4 + 2, none⟩) hBU7.symm _).other (p := ⟨U, i * 4 + 3, none⟩) hBU7.symm _
     have r8z : Rw Z B8 #[.int .i64 (i : Int), .int .i64 (R : Int), .int .i64 (D : Int), .int .i64 kd] 52 := by rw [hZ]; exact (((R8.out.other (p := ⟨U, i * 4, none⟩) hBU.symm _).other (p := ⟨U, i * 4 + 1, none⟩) hBU.symm _).other (p := ⟨U, i * 4 + 2, none⟩) hBU.symm _).other (p := ⟨U, i * 4 + 3, none⟩) hBU.symm _
     have hoz : Own w2.heap.size Z 52 4 aO (zG l i).length cO (lvs l (zG l i)) := by rw [hZ]; exact ((((HO.out.below HBY.out).setBelow (p := ⟨U, i * 4, none⟩) hUl _).setBelow (p := ⟨U, i * 4 + 1, none⟩) hUl _).setBelow (p := ⟨U, i * 4 + 2, none⟩) hUl _).setBelow (p := ⟨U, i * 4 + 3, none⟩) hUl _
     have hcz : Chg (fun b => b = U) w2 Z := by rw [hZ]; exact ((((HC.out.trans (Chg.ofBelow HBY.out) (fun i hi h => by omega)).setCell (p := ⟨U, i * 4, none⟩) (.inr rfl) _).setCell (p := ⟨U, i * 4 + 1, none⟩) (.inr rfl) _).setCell (p := ⟨U, i * 4 + 2, none⟩) (.inr rfl) _).setCell (p := ⟨U, i * 4 + 3, none⟩) (.inr rfl) _
     clear hZ y0 y1 y2 y3 v0 v1 v2 v3 vf vl hsz
     have k2 : Z.cell? ⟨wr.heap.size, 2, none⟩ = some (.int .i64 kd) := r7z.cell 2
     have y0 : Z.cell? ⟨B8, 0, none⟩ = some (.int .i64 (i : Int)) := r8z.cell 0
     have y1 : Z.cell? ⟨B8, 1, none⟩ = some (.int .i64 (R : Int)) := r8z.cell 1
     have y2 : Z.cell? ⟨B8, 2, none⟩ = some (.int .i64 (D : Int)) := r8z.cell 2
     have y3 : Z.cell? ⟨B8, 3, none⟩ = some (.int .i64 kd) := r8z.cell 3
     have RUZ := zH rUZ; have HOZ := zH hoz; have HCZ := zH hcz
     have hczs := hcz.size
     have hll : (zG l i).length ≤ i := yW
     clear rUZ r7z r8z hoz hcz R8 R7 RUY HBY
     by_cases hk0 : kd = 0
     ·have hkb : (kd != 0) = false := by simp [hk0]
      have HLN := zH (jC (l := l) (m := i) (by rw [HKD.out]; exact hk0))
      clear hk0
      go_wp2_with fail
      go_roundw
      case rel => exact ⟨i + 1, aO, cO, _, by rw [HLN.out], by go_num, by omega, zH (by rw [HLN.out]; exact HOZ.out), RUZ, HLVZ, HCZ⟩
      case measure => simp [intOf]; omega
     ·have hkb : (kd != 0) = true := by simp [hk0]
      have HLY := zH (xQ (l := l) (m := i) (by rw [HKD.out]; exact hk0))
      clear hk0
      have tok1 : True := trivial
      go_wp2_with (first | (at_builtin; have _t := tok1; clear tok1; clear _t; refine zI (B := w2.heap.size) rfl _ _ _ _ rfl iL (.agg #[.int .i64 0, .int .i64 0, .int .i64 0, .int .i64 0]) 32 Try.underlying49 hiL hz0L hz1L hz2L rfl rfl (HOZ.out.alloc _) _ rfl _ _ (zP (e' := 52) Try.underlying49 Z #[.int .i64 (i : Int), .int .i64 (R : Int), .int .i64 (D : Int), .int .i64 kd] 52 1 4 rfl (by simp [Value.oneCell'])) (by simp only [maxLen]; omega) (by omega) (by first | omega | (simp; omega) | simp) ?_; intro a5 cap5 w5 ho5 hc5 hn5); (have HO5 := zH ho5); (have HC5 := zH hc5); clear ho5 hc5 hn5)
      go_roundw
      case rel => exact ⟨i + 1, a5, cap5, _, by rw [HLY.out, zLT, zLR], by go_num, by omega, zH (by rw [HLY.out, HLS.out, zLT, zLR]; exact HO5.out), zH ((RUZ.out.alloc _).chg HC5.out (fun h => by have := h.2.1; omega)), HLVZ, zH ((HCZ.out.alloc _).trans HC5.out (fun b hb h => by have := h.2.1; omega))⟩
      case measure => simp [intOf]; omega
  ·obtain rfl : i = l.length := by omega
   have hll : (zG l l.length).length ≤ l.length := yW
   go_wp2_with fail
   refine (zJi _ aO _ cO _ wr HO.out.sl (zJ3 _ _) (by omega)).mono ?_
   rintro e w9 ⟨a9, c9, rfl, ho9, hb9⟩
   have HO9 := zH (ho9.mono (show w.heap.size ≤ wr.heap.size by omega))
   have HB9 := zH (bt (bt HB1.out hbWr) hb9)
   clear ho9 hb9
   go_wp2_with fail
   go_ret
   exact ⟨a9, c9, rfl, HO9.out, HB9.out⟩
end Go.Proofs.Ytjbkjfefjhbolaa
