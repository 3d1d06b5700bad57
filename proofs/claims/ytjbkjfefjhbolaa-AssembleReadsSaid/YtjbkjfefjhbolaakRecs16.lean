import Derived.Test.YtjbkjfefjhbolaakList16
set_option linter.all false
open Nat renaming zero_le → zLP, zero_add → zLQ, not_lt_zero → zLT, le_refl → zLU
open List renaming take_succ_eq_append_getElem → zLR, getElem?_eq_getElem → zLS
set_option maxHeartbeats 40000000
set_option maxRecDepth 100000
namespace Go.Proofs.Ytjbkjfefjhbolaa
open Go.RowKit Go.Shr
theorem zIk (ok : Nat → Prop) (a : Option Addr) (n cap : Nat) (xs : List Value) (w : World) (h : Sl ok w 3 a n cap xs) (hx : ∀ u ∈ xs, u.oneCell' = true) (hn : n ≤ 1000000) :
  Calls Try.prog 46 #[.slice a n cap] w fun e w' => ∃ a' cap', e = .returned (.slice a' n cap') ∧ Own w.heap.size w' 57 3 a' n cap' xs ∧ Below w.heap.size w w' := by
 have hnil := fun (w : World) => Lib.run_eql_slice_nil (P := Try.prog) w 28 57 a n cap 0 0 Try.underlying28
 obtain ⟨i0, hi, hz0, hz1, hz2⟩ := info_parts zCm
 rcases a with _ | a
 ·have h0 : n = 0 := by rcases h.row with h0 | ⟨_, _, h1, _⟩; exact h0; cases h1
  subst h0
  have hx0 : xs = [] := List.eq_nil_of_length_eq_zero (by simpa using h.len)
  subst hx0
  have H := zH h; clear h hx
  go_enter Try.func46, Try.ntmps46
  go_wp2
  go_ret
  exact ⟨none, 0, rfl, Own.nil _ _ _ _, Below.refl _ _⟩
 ·have hs := (h.alloc (.cells #[] 57)).src (P := Try.prog) (tx := 28) Try.underlying28 hx
  have HS := zH hs; clear hs h hx
  go_enter Try.func46, Try.ntmps46
  go_wp2_with (at_builtin; refine zI (B := w.heap.size) rfl _ _ _ _ rfl i0 (.agg #[.int .i64 0, .string ByteArray.empty, .slice none 0 0]) 48 Try.underlying28 hi hz0 hz1 hz2 rfl rfl (Own.bare _ _ _ _ _) _ rfl _ _ HS.out (by simp only [maxLen]; omega) (by omega) (by simp) ?_; intro a' cap' w' hown hchg hnew)
  go_ret
  exact ⟨a', cap', by simp, by simpa using hown, ((Below.refl _ _).alloc (zLU _) _).trans (hchg.below (by simp) (fun i hi ⟨_, h2⟩ => by omega))⟩
def zBm (q : BQ) (m : Nat) : List Spn := (List.range m).map fun k => ⟨k, 0, (q.X k).r.length⟩
theorem wK (q : BQ) (m : Nat) : (zBm q m).length = m := by simp [zBm]
theorem zBE {q : BQ} {m k : Nat} (h : k < (zBm q m).length) : (zBm q m)[k] = ⟨k, 0, (q.X k).r.length⟩ := by simp [zBm]
theorem zI7 {q : BQ} (hx : CX q) {sh : Sh} (hS : Sch q.l sh) : zAB q 0 sh (zBm q q.m) := by
 have hk0 : kb q.l 0 = 0 := by simp [kb, zG]
 refine ⟨by rw [wK, hk0, zLQ, zLQ, ← hS.len]; rfl, fun j hj => ?_⟩
 rw [zBE]
 rw [wK] at hj
 exact ⟨by simp [hk0], by show j < q.L.length; rw [hx.m]; exact hj, zLP _, zLU _⟩
def jT (q : BQ) (k i j : Nat) : List Spn := (qF q 0 (zBm q q.m) j).take (if j < i then k + 1 else k)
theorem zGD (q : BQ) (k n j : Nat) (hj : j < n) : jT q k n j = jT q (k + 1) 0 j := by unfold jT; rw [if_pos hj, if_neg (zLT _)]
theorem zIM (q : BQ) (k : Nat) {i j : Nat} (h : j ≠ i) : jT q k (i + 1) j = jT q k i j := by
 unfold jT
 by_cases h1 : j < i
 ·rw [if_pos h1, if_pos (by omega)]
 ·rw [if_neg h1, if_neg (by omega)]
theorem zGC {q : BQ} {k i : Nat} (hk : k < q.m) (hi : i < (zM q 0 ⟨k, 0, (q.X k).r.length⟩).length) : jT q k (i + 1) i = jT q k i i ++ [(zM q 0 ⟨k, 0, (q.X k).r.length⟩)[i]] := by
 unfold jT
 rw [if_pos (by omega), if_neg (Nat.lt_irrefl _)]
 have hl : k < (qF q 0 (zBm q q.m) i).length := by rw [xI, wK]; exact hk
 rw [zLR hl]
 congr 2
 simp only [qF, List.getElem_map, zBE]
 rw [List.getD_eq_getElem?_getD, zLS hi]; rfl
theorem zHS {q : BQ} {k i j : Nat} (hk : k < q.m) : (jT q k i j).length ≤ k + 1 := by
 unfold jT
 rw [List.length_take]
 split <;> omega
structure RSp (w : World) (B gr n : Nat) (ss : Nat → List Spn) (cur : Array Value) (aa : Nat → Option Addr) (cc : Nat → Nat) : Prop where
 row : Rw w gr cur 96
 hds : Hds cur n aa (fun j => (ss j).length) cc
 ow : OW B w n (fun _ => 99) (fun _ => 3) aa (fun j => (ss j).length) cc (fun j => qV (ss j))
 lt : gr < B
theorem RSp.below {w w' : World} {B gr n : Nat} {ss : Nat → List Spn} {cur : Array Value} {aa : Nat → Option Addr} {cc : Nat → Nat} (h : RSp w B gr n ss cur aa cc) (hb : Below w.heap.size w w') : RSp w' B gr n ss cur aa cc := ⟨h.row.below hb, h.hds, h.ow.below hb, h.lt⟩
theorem RSp.chg {S : Nat → Prop} {w w' : World} {B gr n : Nat} {ss : Nat → List Spn} {cur : Array Value} {aa : Nat → Option Addr} {cc : Nat → Nat} (h : RSp w B gr n ss cur aa cc) (hc : Chg S w w') (hn : ∀ b, b = gr ∨ B ≤ b → b < w.heap.size → ¬ S b) : RSp w' B gr n ss cur aa cc :=
 ⟨h.row.chg hc (hn gr (.inl rfl) h.row.lt), h.hds, h.ow.chg hc (fun g h1 h2 => hn g (.inr h1) h2), h.lt⟩
theorem RSp.congr {w : World} {B gr n : Nat} {ss ss' : Nat → List Spn} {cur : Array Value} {aa : Nat → Option Addr} {cc : Nat → Nat} (h : RSp w B gr n ss cur aa cc) (hs : ∀ j, j < n → ss j = ss' j) : RSp w B gr n ss' cur aa cc :=
 ⟨h.row, h.hds.congr (fun _ _ => rfl) (fun j hj => by rw [hs j hj]) (fun _ _ => rfl), h.ow.congr (fun _ _ => rfl) (fun j hj => by rw [hs j hj]) (fun _ _ => rfl) (fun j hj => by rw [hs j hj]), h.lt⟩
theorem RSp.push {w w' : World} {B gr n : Nat} {ss ss' : Nat → List Spn} {cur : Array Value} {aa : Nat → Option Addr} {cc : Nat → Nat} (h : RSp w B gr n ss cur aa cc) {i : Nat} (hi : i < n) {a' : Option Addr} {c' : Nat} {u : Spn} (ho : Own B w' 99 3 a' ((ss i).length + 1) c' (qV (ss i) ++ spC u))
  (hc : Chg (fun g => blk (aa i) g ∧ B ≤ g ∧ 0 < cc i) w w') (hn : ∀ g, blk a' g → blk (aa i) g ∨ w.heap.size ≤ g) (hs : ∀ j, j < n → ss' j = if j = i then ss i ++ [u] else ss j) :
  RSp (w'.setCell ⟨gr, i, none⟩ (.slice a' ((ss i).length + 1) c')) B gr n ss' (cur.setIfInBounds i (.slice a' ((ss i).length + 1) c')) (upd aa i a') (upd cc i c') := by
 have hlt := h.lt
 have how := h.ow.push hi (n' := (ss i).length + 1) (by omega) ho hc hn
 have e1 : ∀ j, j < n → upd (fun j => (ss j).length) i ((ss i).length + 1) j = (ss' j).length := fun j hj => by
  rw [hs j hj]
  by_cases e : j = i
  ·subst e; rw [zU, if_pos rfl]; simp
  ·rw [zL _ _ e, if_neg e]
 have e2 : ∀ j, j < n → upd (fun j => qV (ss j)) i (qV (ss i) ++ spC u) j = qV (ss' j) := fun j hj => by
  rw [hs j hj]
  by_cases e : j = i
  ·subst e; rw [zU, if_pos rfl, zCu]
  ·rw [zL _ _ e, if_neg e]
 refine ⟨(h.row.chg hc (fun h2 => by have := h2.2.1; omega)).set i _, (h.hds.set hi a' _ c').congr (fun _ _ => rfl) e1 (fun _ _ => rfl), ?_, hlt⟩
 have how2 := how.chg (S := fun b => b = gr) (zCV w' gr i (.slice a' ((ss i).length + 1) c')) (fun g h1 _ e => by have e' : g = gr := e; omega)
 exact how2.congr (fun _ _ => rfl) e1 (fun _ _ => rfl) e2
def zIv (q : BQ) (sh : Sh) (n : Nat) (bad : Bool) (w : World) (e : Ending) (w' : World) : Prop :=
 ∃ (x : List Tr) (a : Option Addr) (c : Nat) (ys : List Value) (bad' : Bool), e = .returned (.slice a x.length c) ∧ Sl (fun b => w.heap.size ≤ b) w' 3 a x.length c ys ∧ zZ (fun b => w.heap.size ≤ b) w' x ys ∧ BA q w' bad' ∧ Chg (fun b => b = q.bx) w w' ∧ (bad' = false → x.length = n) ∧
  ∀ (C : Nat → List Cel) (x0 : List Tr), yQ q C → (∀ k, k < q.m → C k = zS (q.lf k) sh x0) → (∀ t ∈ x0, fsT sh t) → x0.length = n → bad = false → bad' = false ∧ x = x0
theorem zDg {q : BQ} (hx : CX q) {sh : Sh} (hS : Sch q.l sh) (hr0 : sh.rep = 0) {C : Nat → List Cel} {x0 : List Tr} (hC : yQ q C) (hc : ∀ k, k < q.m → C k = zS (q.lf k) sh x0) (hf : ∀ t ∈ x0, fsT sh t) (k : Nat) (hk : k < q.m) :
  (zM q 0 ⟨k, 0, (q.X k).r.length⟩).length = x0.length ∧ ∀ (n : Nat) (h : n < x0.length) (h' : n < (zM q 0 ⟨k, 0, (q.X k).r.length⟩).length), zCZ C (zM q 0 ⟨k, 0, (q.X k).r.length⟩)[n] = yK (q.lf k) 0 (lvD q.l 0) (lvR q.l 0) 0 sh x0[n] := by
 have hk0 : kb q.l 0 = 0 := by simp [kb, zG]
 have hlen : q.l.length = sh.size := hS.len
 obtain ⟨hm, hf1, hf2, hf3⟩ := zGR (q := q) (i := 0) (n := sh.size) (j := k) (by omega) (by rw [hk0, zLQ, zLQ, ← hlen, zBN]; exact hk)
 rw [hk0, zLQ] at hm hf1 hf2 hf3
 obtain ⟨hl1, hl2⟩ := zDi hS hr0
 have hix := hS.ix
 have hpc : Pcs 0 (xT (fun r' u => yK (q.lf k) 0 0 0 r' sh u) 0 0 x0) := zDk (d := 0) (fun r' t ht => wH hf3 sh 0 0 0 r' t hix hS.good (hf t ht) hf1 hf2)
 have hln := (hC.len hk).1
 have hflat : ((C k).take (q.X k).r.length).drop 0 = (xT (fun r' u => yK (q.lf k) 0 0 0 r' sh u) 0 0 x0).flatten := by
  rw [hln, List.take_length, List.drop_zero, hc k hk, zFD]
 have hR : (q.X k).r = (C k).map fun c => (c.r : Int) := by rw [(hC k hk).1]; rfl
 have hsplit := zC8 (C := C k) (f := 0) (t := (q.X k).r.length) hpc (by omega) (zLP _) hflat
 have hps : zM q 0 ⟨k, 0, (q.X k).r.length⟩ = (ivs 0 (xT (fun r' u => yK (q.lf k) 0 0 0 r' sh u) 0 0 x0)).map fun x => ⟨k, x.1, x.2⟩ := by
  unfold zM
  dsimp only
  rw [← hsplit, hR]
  rfl
 refine ⟨by rw [hps, List.length_map, zFg, zA7], fun n h h' => ?_⟩
 have hnp : n < (xT (fun r' u => yK (q.lf k) 0 0 0 r' sh u) 0 0 x0).length := by rw [zA7]; exact h
 have hget := List.getElem?_map (f := fun x : Nat × Nat => (⟨k, x.1, x.2⟩ : Spn)) (l := ivs 0 (xT (fun r' u => yK (q.lf k) 0 0 0 r' sh u) 0 0 x0)) (i := n)
 rw [zFh _ 0 n hnp, Option.map_some, ← hps] at hget
 rw [zLS h'] at hget
 rw [Option.some.inj hget]
 unfold zCZ
 dsimp only
 have hpc2 := zDn hflat n hnp
 rw [hpc2, zDl h hnp, hl1, hl2]
 congr 1
 split <;> rfl
theorem zIH (q : BQ) (hx : CX q) (k : Nat) (hk : k < q.L.length) (w : World) (bad : Bool) (hB : BA q w bad) :
  Calls Try.prog 44 #[.pointer (some ⟨q.bx, 0, none⟩), .agg #[.int .i64 (k : Int), .int .i64 0, .int .i64 ((q.X k).r.length : Int)], .int .i64 0] w (zG6 q 0 ⟨k, 0, (q.X k).r.length⟩ w) :=
 zHh q hx ⟨k, 0, (q.X k).r.length⟩ 0 w bad ⟨hk, zLP _, zLU _⟩ hB (zLP _)
theorem zIv.no {q : BQ} {sh : Sh} {n : Nat} {bad : Bool} {w w' : World} (hB : BA q w' true) (hC : Chg (fun b => b = q.bx) w w')
  (h : ∀ (C : Nat → List Cel) (x0 : List Tr), yQ q C → (∀ k, k < q.m → C k = zS (q.lf k) sh x0) → (∀ t ∈ x0, fsT sh t) → x0.length ≠ n) : zIv q sh n bad w (.returned (.slice none 0 0)) w' :=
 ⟨[], none, 0, [], true, rfl, Sl.nil _ _ _ _, (by simp only [zZ]), hB, hC, (fun h => by cases h), fun C x0 h1 h2 h3 h4 => absurd h4 (h C x0 h1 h2 h3)⟩
def zLz (q : BQ) (sh : Sh) (n : Nat) (bad br : Bool) (A : List Tr) (i : Nat) : Prop :=
 ∀ (C : Nat → List Cel) (x0 : List Tr), yQ q C → (∀ k, k < q.m → C k = zS (q.lf k) sh x0) → (∀ t ∈ x0, fsT sh t) → x0.length = n → bad = false → br = false ∧ A = x0.take i
theorem zKT (q : BQ) (hx : CX q) {sh : Sh} (hS : Sch q.l sh) (hr0 : sh.rep = 0) (n : Nat) (hn : n ≤ 200) (w : World) (bad : Bool) (hB : BA q w bad) :
  Calls Try.prog 29 #[.pointer (some ⟨q.bx, 0, none⟩), .int .i64 (n : Int)] w (zIv q sh n bad w) := by
 obtain ⟨is, his, hz0s, hz1s, hz2s⟩ := info_parts zCn
 obtain ⟨it, hit, hz0t, hz1t, hz2t⟩ := info_parts zEH
 have hmk := fun w => qM (P := Try.prog) 95 96 _ 24 1 Try.underlying95 zGc .i64 .i64 n (by omega) (by omega) w
 have hbxl := hB.row.lt
 have hB0 := hB.B0
 have hsm := hx.small
 have hmm : q.m ≤ 1000 := by have h1 := zIt q.l q.l.length; rw [zBN] at h1; have h2 : q.m = (zG q.l q.l.length).length := rfl; omega
 have hmL := hx.m
 have HX := zH hx; have HB := zH hB; have HS := zH hS; have HR0 := zH hr0; have HML := zH hmL
 have x3 : w.cell? ⟨q.bx, 3, none⟩ = some (.slice q.la q.m q.lc) := by have := hB.row.cell 3; rw [this]; simp [BQ.box]
 have HX3 := zH x3
 clear hx hB hS hr0 x3 hmL
 go_enter Try.func29, Try.ntmps29
 go_upto_region 2 with fail
 obtain ⟨gr, hgr⟩ : ∃ b, b = w.heap.size := ⟨_, rfl⟩
 refine yE (fun w1 hw1 => ?_)
 rw [← hgr]
 have hb1 : Below w.heap.size w w1 := by rw [hw1]; exact ba (b0 w) _
 have rg : Rw w1 gr (madeCells #[.slice none 0 0] n) 96 := by rw [hw1, hgr]; exact Rw.new' rfl
 have hg1 := rg.lt
 have HB1 := zH hb1
 have HBA1 := zH (HB.out.below hb1)
 have HRT1 : Hid (RSp w1 w1.heap.size gr n (jT q 0 0) (madeCells #[.slice none 0 0] n) (fun _ => none) (fun _ => 0)) := zH ⟨rg, fun j hj => by simp [jT, madeCells, hj, Nat.mod_one], (OW.nil w1.heap.size w1 n (fun _ => 99) (fun _ => 3)).congr (fun _ _ => rfl) (fun j _ => by simp [jT]) (fun _ _ => rfl) (fun j _ => by simp [jT, qV]), hg1⟩
 have x3 : w1.cell? ⟨q.bx, 3, none⟩ = some (.slice q.la q.m q.lc) := cb hb1 HX3.out
 have HGR := zH hgr
 have hgx : q.bx < gr := by omega
 have hgB : q.B0 ≤ gr := by omega
 clear hw1 hb1 rg hmk hgr HX3
 go_wp2_with fail
 clear x3
 go_loopw [20] (fun kv wr => ∃ (k : Nat) (cur : Array Value) (aa : Nat → Option Addr) (cc : Nat → Nat), kv = .int .i64 (k : Int) ∧ k ≤ q.m ∧ Hid (RSp wr w1.heap.size gr n (jT q k 0) cur aa cc) ∧ Hid (BA q wr bad) ∧ Hid (Chg (fun b => b = gr ∨ w1.heap.size ≤ b) w1 wr) ∧ Hid (∀ k', k' < k → (zM q 0 ⟨k', 0, (q.X k').r.length⟩).length = n)) (fun kv _ => q.m - (intOf kv).toNat)
 case atStart => exact ⟨0, _, _, _, rfl, zLP _, HRT1, HBA1, zH (Chg.refl _ _), zH (fun k' h => absurd h (zLT _))⟩
 case round =>
  obtain ⟨k, cur, aa, cc, rfl, hk, HRT, HBA, HC, HPL⟩ := hrel
  have hszr := HC.out.size
  clear HRT1 HBA1
  by_cases hkm : k < q.m
  ·have hkm' : (k : Int) < (q.m : Int) := by omega
   have hkL : k < q.L.length := by rw [HML.out]; exact hkm
   obtain ⟨cb0, co, a0, c0, a1, c1, a2, c2, hca, hcok, hc0, _, _, _⟩ := HBA.out.st.colAt hkL HML.out
   rw [← BQ.X_eq hkL] at hc0
   have y4 : wr.cell? ⟨q.bx, 4, none⟩ = some (.slice (some ⟨cb0, co, none⟩) q.m q.cc) := by have := HBA.out.row.cell 4; rw [this]; simp [BQ.box, hca]
   have HRP := zH (fun (C : Nat → List Cel) (x0 : List Tr) (h1 : yQ q C) (h2 : ∀ k, k < q.m → C k = zS (q.lf k) sh x0) (h3 : ∀ t ∈ x0, fsT sh t) => (zDg HX.out HS.out HR0.out h1 h2 h3 k hkm).1)
   clear hca
   go_wp2_with fail
   refine (zIH q HX.out k hkL wr bad HBA.out).mono ?_
   rintro e w5 ⟨ap, cp, rfl, hop, hb5⟩
   have HOP := zH hop; have HB5 := zH hb5
   have hs5 := hb5.size
   have HBA5 := zH (HBA.out.below hb5)
   clear hop hb5 y4 hc0
   by_cases hpn : (zM q 0 ⟨k, 0, (q.X k).r.length⟩).length = n
   rotate_left
   ·have hpb : (((zM q 0 ⟨k, 0, (q.X k).r.length⟩).length : Int) != (n : Int)) = true := by simp; omega
    have HPN := zH hpn
    have y7 : w5.cell? ⟨q.bx, 7, none⟩ = some (.bool bad) := by have := HBA5.out.row.cell 7; rw [this]; simp [BQ.box]
    have yf := HBA5.out.row.frozen
    have yl := HBA5.out.row.lt
    clear hpn
    go_wp2_with fail
    go_ret
    refine zIv.no (HBA5.out.set true) ?_ (fun C x0 h1 h2 h3 h4 => HPN.out (by rw [HRP.out C x0 h1 h2 h3]; exact h4))
    have hc : Chg (fun b => b = q.bx) w w5 := ⟨HB5.out.os.trans (HC.out.os.trans HB1.out.os), HB5.out.tape.trans (HC.out.tape.trans HB1.out.tape), HB5.out.output.trans (HC.out.output.trans HB1.out.output), by have := HB1.out.size; omega, fun b hb hnb => (HB5.out.block b (by have := HB1.out.size; omega)).trans ((HC.out.block b (by have := HB1.out.size; omega) (fun h => by have := HB1.out.size; have := HGR.out; omega)).trans (HB1.out.block b hb))⟩
    exact hc.setCell (p := ⟨q.bx, 7, none⟩) (.inr rfl) _
   ·have hpb : (((zM q 0 ⟨k, 0, (q.X k).r.length⟩).length : Int) != (n : Int)) = false := by simp; omega
    have HPN := zH hpn
    have HPS : Hid (Sl (fun b => wr.heap.size ≤ b ∧ b < w5.heap.size) w5 3 ap n cp (qV (zM q 0 ⟨k, 0, (q.X k).r.length⟩))) := zH (by
     have h := HOP.out.sl
     rw [HPN.out] at h
     exact h.mono (fun b _ h => ⟨h.1, h.2.2⟩) (by decide))
    have HRT5 := zH (HRT.out.below HB5.out)
    have HAA : Hid (∀ j g, j < n → blk (aa j) g → ¬ (wr.heap.size ≤ g ∧ g < w5.heap.size)) := zH (fun j g hj hg h => by have := (HRT.out.ow.lt j g hj hg).1; omega)
    have HC5 := zH (HC.out.trans (Chg.ofBelow HB5.out) (fun b _ h => .inr (by have h' : wr.heap.size ≤ b := h; omega)))
    have HSELF := zH (fun (i : Nat) (hi : i < (zM q 0 ⟨k, 0, (q.X k).r.length⟩).length) => zGC hkm hi)
    rw [hpn]
    clear hpn HRT HBA HC HOP HB5
    generalize hPSE : zM q 0 ⟨k, 0, (q.X k).r.length⟩ = PS at *
    have HPSE := zH hPSE
    clear hPSE
    obtain ⟨wo, hwo⟩ : ∃ wo : Nat, wo = wr.heap.size := ⟨_, rfl⟩
    rw [← hwo] at HPS HAA hs5 hszr
    clear hwo
    go_wp2_with fail
    clear hpb
    go_loopw [45] (fun iv wr => ∃ (i : Nat) (cur : Array Value) (aa : Nat → Option Addr) (cc : Nat → Nat), iv = .int .i64 (i : Int) ∧ i ≤ n ∧ Hid (RSp wr w1.heap.size gr n (jT q k i) cur aa cc) ∧ Hid (BA q wr bad) ∧ Hid (Chg (fun b => b = gr ∨ w1.heap.size ≤ b) w1 wr) ∧ Hid (Sl (fun b => wo ≤ b ∧ b < w5.heap.size) wr 3 ap n cp (qV PS)) ∧ Hid (∀ j g, j < n → blk (aa j) g → ¬ (wo ≤ g ∧ g < w5.heap.size)) ∧ w5.heap.size ≤ wr.heap.size) (fun iv _ => n - (intOf iv).toNat)
    case atStart => exact ⟨0, cur, aa, cc, rfl, zLP _, HRT5, HBA5, HC5, HPS, HAA, zLU _⟩
    case round =>
     clear HRT5 HBA5 HC5 HPS HAA
     obtain ⟨i, cur, aa, cc, rfl, hi, HRT, HBA, HC, HPS, HAA, hs5r⟩ := hrel
     by_cases hin : i < n
     ·have hin' : (i : Int) < (n : Int) := by omega
      have hip : i < PS.length := by rw [HPN.out]; exact hin
      obtain ⟨pb, po, hpa, hpok, hpc⟩ := HPS.out.pos (by omega)
      obtain ⟨g0, g1, g2⟩ := zAS PS i hip
      have e0 := hpc _ _ g0; have e1 := hpc _ _ g1; have e2 := hpc _ _ g2
      rw [← Nat.add_assoc] at e1 e2
      have HSF := zH (HSELF.out i hip)
      generalize PS[i] = u at *
      subst hpa
      have hrl := zHS (i := i) (j := i) hkm
      have HOI := zH (HRT.out.ow.own i hin)
      have hgc : wr.cell? ⟨gr, i, none⟩ = some (.slice (aa i) (jT q k i i).length (cc i)) := (HRT.out.row.cell i).trans (HRT.out.hds i hin)
      have hsB : w1.heap.size ≤ wr.heap.size := HC.out.size
      clear hpc g0 g1 g2 hip
      go_upto_region 12 with fail
      refine yE (fun w7 hw7 => ?_)
      have r9 : Rw w7 wr.heap.size #[.int .i64 (u.k : Int), .int .i64 (u.f : Int), .int .i64 (u.t : Int)] 99 := by rw [hw7]; exact Rw.new wr _ _
      have hb7 : Below wr.heap.size wr w7 := by rw [hw7]; exact ba (b0 wr) _
      clear hw7 e0 e1 e2
      have HN9 : Hid (¬ blk (aa i) wr.heap.size) := zH (fun h => by have := (HRT.out.ow.lt i _ hin h).1; omega)
      have HG7 := zH (cb hb7 hgc)
      have HR9 := zH r9
      have HOI7 := zH (HOI.out.below hb7)
      have HRT7 := zH (HRT.out.below hb7)
      have HB7 := zH hb7
      have hs7 := hb7.size
      have h9l := r9.lt
      have hg7 := HRT7.out.row.lt
      clear r9 hb7 hgc HOI
      generalize hRL : (jT q k i i).length = RL at *
      have HRL := zH hRL
      clear hRL
      refine zF (fun w' => w'.cell? ⟨gr, i, none⟩ = some (.slice (aa i) RL (cc i)) ∧ w'.cell? ⟨wr.heap.size, 0, none⟩ = some (.int .i64 (u.k : Int)) ∧ w'.cell? ⟨wr.heap.size, 1, none⟩ = some (.int .i64 (u.f : Int)) ∧ w'.cell? ⟨wr.heap.size, 2, none⟩ = some (.int .i64 (u.t : Int))) [10] (by kernel_rfl) ?g55rgS (fun hHeld => ?g55rgR)
      case g55rgS => (try dsimp only); (first | exact ⟨HG7.out, HR9.out.cell 0, HR9.out.cell 1, HR9.out.cell 2⟩ | exact ⟨cb (ba (b0 _) _) hHeld.1, cb (ba (b0 _) _) hHeld.2.1, cb (ba (b0 _) _) hHeld.2.2.1, cb (ba (b0 _) _) hHeld.2.2.2⟩ | exact ⟨hc5.keep hHeld.1 (by rintro ⟨_, h, _⟩; omega), hc5.keep hHeld.2.1 (by rintro ⟨h, _, _⟩; exact HN9.out h), hc5.keep hHeld.2.2.1 (by rintro ⟨h, _, _⟩; exact HN9.out h), hc5.keep hHeld.2.2.2 (by rintro ⟨h, _, _⟩; exact HN9.out h)⟩)
      try dsimp only at hHeld
      refine zD [0, 1, 2, 3, 4, 5, 6] 4 (by kernel_rfl) (fun _ _ _ _ _ h => h) (by assumption) ?_
      iterate 7 ((apply YA.take rfl (by rfl); case hy => rintro w ⟨s0, s1, s2, s3⟩; go_simp; try with_reducible rfl); try simp only [pD])
      refine YA.nil ?_
      refine zB [7] (by kernel_rfl) (by simp) ?_
      refine zA.con 7 rfl (fun K hK => ?g55ro1) ?g55rm1
      case g55rm1 => exact zA.nil
      go_simp
      refine hK.out _ _ ?g55rs1 (fun hHeld => ?g55rt1)
      case g55rs1 => (try dsimp only); (first | exact ⟨HG7.out, HR9.out.cell 0, HR9.out.cell 1, HR9.out.cell 2⟩ | exact ⟨cb (ba (b0 _) _) hHeld.1, cb (ba (b0 _) _) hHeld.2.1, cb (ba (b0 _) _) hHeld.2.2.1, cb (ba (b0 _) _) hHeld.2.2.2⟩ | exact ⟨hc5.keep hHeld.1 (by rintro ⟨_, h, _⟩; omega), hc5.keep hHeld.2.1 (by rintro ⟨h, _, _⟩; exact HN9.out h), hc5.keep hHeld.2.2.1 (by rintro ⟨h, _, _⟩; exact HN9.out h), hc5.keep hHeld.2.2.2 (by rintro ⟨h, _, _⟩; exact HN9.out h)⟩)
      try dsimp only at hHeld
      clear hK K
      try simp only [pD]
      refine zB [8] (by kernel_rfl) (by simp) ?_
      refine zA.con 8 rfl (fun K hK => ?g55ro2) ?g55rm2
      case g55rm2 => exact zA.nil
      (refine zN (B := w1.heap.size) rfl _ _ _ _ rfl is (.agg #[.int .i64 0, .int .i64 0, .int .i64 0]) 24 Try.underlying96 his hz0s hz1s hz2s rfl rfl (HOI7.out.drew.alloc _) _ rfl _ _ (yP (e' := 99) Try.underlying96 (cur := #[.int .i64 (u.k : Int), .int .i64 (u.f : Int), .int .i64 (u.t : Int)]) (t := 99) (by refine Rw.new' ?_; simp) 1 3 (by rfl) (by simp [Value.oneCell'])) (by simp only [maxLen]; omega) (by omega) (by first | omega | (simp; omega) | simp) ?_; intro a5 cap5 w8 ho5 hc5 hn5)
      refine hK.out _ _ ?g55rs2 (fun hHeld => ?g55rt2)
      case g55rs2 => (try dsimp only); (first | exact ⟨HG7.out, HR9.out.cell 0, HR9.out.cell 1, HR9.out.cell 2⟩ | exact ⟨cb (ba (b0 _) _) hHeld.1, cb (ba (b0 _) _) hHeld.2.1, cb (ba (b0 _) _) hHeld.2.2.1, cb (ba (b0 _) _) hHeld.2.2.2⟩ | exact ⟨hc5.keep hHeld.1 (by rintro ⟨_, h, _⟩; omega), hc5.keep hHeld.2.1 (by rintro ⟨h, _, _⟩; exact HN9.out h), hc5.keep hHeld.2.2.1 (by rintro ⟨h, _, _⟩; exact HN9.out h), hc5.keep hHeld.2.2.2 (by rintro ⟨h, _, _⟩; exact HN9.out h)⟩)
      try dsimp only at hHeld
      clear hK K
      try simp only [pD]
      refine zD [9] 1 (by kernel_rfl) (fun _ _ _ _ _ h => h) (by assumption) ?_
      iterate 1 ((apply YA.take rfl (by rfl); case hy => rintro w ⟨s0, s1, s2, s3⟩; go_simp; try with_reducible rfl); try simp only [pD])
      refine YA.nil ?_
      refine zB [10] (by kernel_rfl) (by simp) ?_
      refine zA.lst 10 rfl (by kernel_rfl) (fun K hK => ?g55ro3) ?g55rm3
      case g55rm3 => exact zA.nil
      (have q5 : w8.cell? ⟨gr, i, none⟩ = some (.slice (aa i) RL (cc i)) := hHeld.1); (have qrow := ((HRT7.out.row.drew.alloc _).chg hc5 (by rintro ⟨_, h, _⟩; omega))); (have qf := qrow.frozen); (have ql := qrow.lt); go_simp
      refine hK.out _ _ ?_
      clear hK K
      try simp only [pD]
      refine zE (by kernel_rfl) ?_
      clear hHeld q5 qrow qf ql
      have hball : Below w7.heap.size w7 (w7.drew.alloc (.cells #[.int .i64 (u.k : Int), .int .i64 (u.f : Int), .int .i64 (u.t : Int)] 99)) := ba (b0 w7).drew _
      have hbw := bt HB7.out hball
      have hs8 := hc5.size
      have hsa := hbw.size
      have hrt := RSp.push (HRT7.out.below hball) hin (a' := a5) (c' := cap5) (u := u) (ss' := jT q k (i + 1)) (by rw [HRL.out]; exact ho5) hc5 hn5 (fun j hj => by
       by_cases e : j = i
       ·subst e; rw [if_pos rfl, HSF.out]
       ·rw [if_neg e]; exact zIM q k e)
      rw [HRL.out] at hrt
      have HRTN := zH hrt
      have hcg := zCV w8 gr i (.slice a5 (RL + 1) cap5)
      have HBAN := zH (((HBA.out.below hbw).other hc5 (fun b hb h => by have h2 := h.2.1; rcases hb with hb | hb <;> omega)).other hcg (fun b hb e => by have e' : b = gr := e; rcases hb with hb | hb <;> omega))
      have HCN := zH (((HC.out.trans (Chg.ofBelow hbw) (fun b _ h => .inr (by have h' : wr.heap.size ≤ b := h; omega))).trans hc5 (fun b _ h => .inr h.2.1)).setCell (p := ⟨gr, i, none⟩) (.inr (.inl rfl)) (.slice a5 (RL + 1) cap5))
      have HPSN := zH (((HPS.out.below hbw).chg hc5 (fun b hb h => HAA.out i b hin h.1 hb)).chg hcg (fun b hb e => by have e' : b = gr := e; have := hb.1; omega))
      have HAAN : Hid (∀ j g, j < n → blk (upd aa i a5 j) g → ¬ (wo ≤ g ∧ g < w5.heap.size)) := zH (fun j g hj hg => by
       by_cases e : j = i
       ·subst e
        rw [zU] at hg
        rcases hn5 g hg with h | h
        ·exact HAA.out j g hj h
        ·intro h2; have h3 := h; simp at h3; omega
       ·rw [zL _ _ e] at hg
        exact HAA.out j g hj hg)
      have hsN : w5.heap.size ≤ (w8.setCell ⟨gr, i, none⟩ (.slice a5 (RL + 1) cap5)).heap.size := by have := hcg.size; simp at hs8; omega
      clear ho5 hc5 hn5 hball hbw hrt hcg hs8 hsa
      go_wp2_with fail
      go_roundw
      case rel => exact ⟨i + 1, _, _, _, by go_num, by omega, HRTN, HBAN, HCN, HPSN, HAAN, hsN⟩
      case measure => simp [intOf]; omega
     ·obtain rfl : i = n := by omega
      have HRN := zH (HRT.out.congr (fun j hj => zGD q k i j hj))
      have HPL2 : Hid (∀ k', k' < k + 1 → (zM q 0 ⟨k', 0, (q.X k').r.length⟩).length = i) := zH (fun k' h => by
       by_cases e : k' = k
       ·subst e; rw [HPSE.out]; exact HPN.out
       ·exact HPL.out k' (by omega))
      clear hin
      go_wp2_with fail
      go_roundw
      case rel => exact ⟨k + 1, cur, aa, cc, by go_num, by omega, HRN, HBA, HC, HPL2⟩
      case measure => simp [intOf]; omega
  ·have hke : k = q.m := by omega
   subst hke
   clear hkm hk
   obtain ⟨w2, rfl⟩ : ∃ wo : World, wo = wr := ⟨_, rfl⟩
   have HEO : Hid (∀ j, j < n → zAB q 0 sh (qF q 0 (zBm q q.m) j)) := zH (fun j hj => zGk (zI7 HX.out HS.out) (fun k hk => by
    rw [zBE]
    rw [wK] at hk
    rw [HPL.out k hk]; exact hj))
   have HRT2 := zH (HRT.out.congr (ss' := fun j => qF q 0 (zBm q q.m) j) (fun j hj => by
    unfold jT
    rw [if_neg (zLT _), List.take_of_length_le (by rw [xI, wK]; omega)]))
   have HCW2 : Hid (Chg (fun b => b = q.bx) w w2) := zH ⟨HC.out.os.trans HB1.out.os, HC.out.tape.trans HB1.out.tape, HC.out.output.trans HB1.out.output, by have := HB1.out.size; omega, fun b hb hnb => (HC.out.block b (by have := HB1.out.size; omega) (fun h => by have := HB1.out.size; have := HGR.out; omega)).trans (HB1.out.block b hb)⟩
   have HVAL : Hid (∀ (sp : List Spn) (a : Option Addr) (c : Nat) (W : World) (b : Bool), BA q W b → Sl (fun b => b < W.heap.size ∧ b ≠ q.bx) W 3 a sp.length c (qV sp) → zAB q 0 sh sp →
     Calls Try.prog 45 #[.pointer (some ⟨q.bx, 0, none⟩), .int .i64 0, .slice a sp.length c] W (VQ q 0 sh sp b W)) := zH (fun sp a c W b h1 h2 h3 =>
    zEf q HX.out 1000 sh HS.out.size HS.out.size 0 sp a c W b HS.out.ix (by have := HS.out.len; omega) HS.out.good h1 h2 h3)
   have HBA2 := zH HBA.out
   have hw12 : w1.heap.size ≤ w2.heap.size := hszr
   have hcl : ∀ j, (qF q 0 (zBm q q.m) j).length = q.m := fun j => by rw [xI, wK]
   have HCL := zH hcl
   clear HRT HBA hcl
   go_wp2_with fail
   go_loopw [10, 64] (fun ov iv wr => ∃ (i : Nat) (aL : Option Addr) (cL : Nat) (A : List Tr) (ys : List Value) (br : Bool), ov = .slice aL i cL ∧ iv = .int .i64 (i : Int) ∧ i ≤ n ∧ Hid (A.length = i) ∧ Hid (jP 57 w2.heap.size wr aL i cL A ys) ∧ Hid (BA q wr br) ∧ Hid (Chg (fun b => b = q.bx ∨ w2.heap.size ≤ b) w2 wr) ∧ Hid (zLz q sh n bad br A i)) (fun _ iv _ => n - (intOf iv).toNat)
   case atStart => exact ⟨0, none, 0, [], [], bad, rfl, rfl, zLP _, zH rfl, zH (jP.nil _ _ _), HBA2, zH (Chg.refl _ _), zH (fun C x0 _ _ _ _ hb => ⟨hb, by simp⟩)⟩
   case round =>
    clear HBA2 hszr
    obtain ⟨i, aL, cL, A, ys, br, rfl, rfl, hi, HAL, HOR, HBA, HC2, HRC⟩ := hrel
    have hszr := HC2.out.size
    by_cases hin : i < n
    ·have hin' : (i : Int) < (n : Int) := by omega
     have HRTr := zH (HRT2.out.chg HC2.out (fun b hb hlt h => by rcases h with h | h <;> rcases hb with hb | hb <;> omega))
     have hgc : wr.cell? ⟨gr, i, none⟩ = some (.slice (aa i) q.m (cc i)) := by
      have := (HRTr.out.row.cell i).trans (HRTr.out.hds i hin)
      dsimp only at this
      rw [HCL.out] at this
      exact this
     have hsl := (HRTr.out.ow.own i hin).sl.mono (ok' := fun b => b < wr.heap.size ∧ b ≠ q.bx) (fun b hb h => ⟨hb, by have := h.1; omega⟩) (by decide)
     have hcall := HVAL.out (qF q 0 (zBm q q.m) i) (aa i) (cc i) wr br HBA.out hsl (HEO.out i hin)
     rw [HCL.out] at hcall
     have HCALL := zH hcall
     have HRP : Hid (∀ (C : Nat → List Cel) (x0 : List Tr), yQ q C → (∀ k, k < q.m → C k = zS (q.lf k) sh x0) → (∀ t ∈ x0, fsT sh t) → ∀ (h : i < x0.length), jN q C 0 (qF q 0 (zBm q q.m) i) (fun lf => yK lf 0 (lvD q.l 0) (lvR q.l 0) 0 sh x0[i])) := zH (fun C x0 h1 h2 h3 h => zCQ (s := sh) (fun j hj => by
      rw [wK] at hj
      have hp := zDg HX.out HS.out HR0.out h1 h2 h3 j hj
      simp only [zBE]
      have hk0 : kb q.l 0 = 0 := by simp [kb, zG]
      rw [hk0, zLQ]
      exact ⟨by rw [hp.1]; exact h, hp.2 i h _⟩))
     clear hsl hcall
     go_wp2_with fail
     refine HCALL.out.mono ?_
     rintro e w5 ⟨t, ta, tc, br5, rfl, hT, hB5, hC5, hcond⟩
     have hs5 := hC5.size
     have hnb : ∀ b, w2.heap.size ≤ b → ¬ b = q.bx := fun b hb e => by omega
     have hor5 := HOR.out.chg hC5 hnb
     have HOR5 := zH (hor5.chg ((Chg.refl (fun _ => False) w5).alloc (.cells #[.int .i64 t.n, .string t.s, .slice ta t.kids.length tc] 57)) (fun _ _ h => h))
     have hlt5 := HOR.out.lt
     have HT5 := zH (TrG.go (ok' := fun b => w2.heap.size ≤ b ∧ ¬ blk aL b) ((Chg.refl (fun _ => False) w5).alloc (.cells #[.int .i64 t.n, .string t.s, .slice ta t.kids.length tc] 57)) (fun b _ hb => ⟨fun h => h, by have h' : wr.heap.size ≤ b := hb; omega, fun h => by have := hlt5 b h; have h' : wr.heap.size ≤ b := hb; omega⟩) hT)
     have HOO := zH hor5.own
     have HB5 := zH hB5; have HC5 := zH hC5; have HCO := zH hcond
     clear hT hor5 hlt5 hB5 hC5 hcond hgc
     have tok1 : True := trivial
     go_wp2_with (first
      | (at_builtin; have _t := tok1; clear tok1; clear _t; refine zI (B := w2.heap.size) rfl _ _ _ _ rfl it (.agg #[.int .i64 0, .string ByteArray.empty, .slice none 0 0]) 48 Try.underlying28 hit hz0t hz1t hz2t rfl rfl (HOO.out.alloc _) _ rfl _ _ (zP (e' := 57) Try.underlying28 w5 #[.int .i64 t.n, .string t.s, .slice ta t.kids.length tc] 57 1 3 rfl (by simp [Value.oneCell'])) (by simp only [maxLen]; omega) (by omega) (by first | omega | (simp; omega) | simp) ?_; intro a6 cap6 w6 ho6 hc6 hn6); (have HOR6 := zH (jP.push HOR5.out HT5.out ho6 hc6 hn6)); (have HC6 := zH hc6); clear ho6 hc6 hn6
      | fail)
     go_roundw
     case rel =>
      have hba := ba (b0 w5) (.cells #[.int .i64 t.n, .string t.s, .slice ta t.kids.length tc] 57)
      refine ⟨i + 1, a6, cap6, A ++ [t], ys ++ [.int .i64 t.n, .string t.s, .slice ta t.kids.length tc], br5, rfl, by go_num, by omega, zH (by rw [List.length_append, HAL.out]; rfl), HOR6, zH ?_, zH ?_, zH ?_⟩
      ·exact (HB5.out.below hba).other HC6.out (fun b hb h => by have h2 := h.2.1; rcases hb with hb | hb <;> omega)
      ·exact ((HC2.out.trans HC5.out (fun _ _ h => .inl h)).alloc _).trans HC6.out (fun b _ h => .inr h.2.1)
      ·intro C x0 h1 h2 h3 h4 h5
       obtain ⟨g1, g2⟩ := HRC.out C x0 h1 h2 h3 h4 h5
       have hnx : i < x0.length := by omega
       obtain ⟨e1, e2⟩ := HCO.out C x0[i] 0 h1 (h3 _ (List.getElem_mem hnx)) (HRP.out C x0 h1 h2 h3 hnx) g1
       exact ⟨e1, by rw [zLR hnx, g2, e2]⟩
     case measure => simp [intOf]; omega
    ·have hie : i = n := by omega
     subst hie
     clear hin
     have hOS := HOR.out.sl
     have HOS := zH hOS
     have HONE := zH (zZ.one' hOS.2)
     have hinn : ¬ (i : Int) < (i : Int) := by omega
     clear hOS
     go_wp2_with fail
     refine (zIk _ aL i cL ys wr HOS.out.1 HONE.out (by omega)).mono ?_
     rintro e w7 ⟨a7, c7, rfl, ho7, hb7⟩
     have HO7 := zH ho7; have HB7 := zH hb7
     clear ho7 hb7
     go_wp2_with fail
     go_ret
     have hal := HAL.out
     subst hal
     have hsw := HCW2.out.size
     refine ⟨A, a7, c7, ys, br, rfl, HO7.out.sl.mono (fun b _ h => by have := h.1; omega) (by decide), ?_, HBA.out.below HB7.out, ?_, fun _ => rfl, fun C x0 h1 h2 h3 h4 h5 => ?_⟩
     ·exact HOS.out.2.go (chF HB7.out) (fun b _ h => ⟨fun h => h, by have h' : w2.heap.size ≤ b := h; omega⟩)
     ·exact ⟨HB7.out.os.trans (HC2.out.os.trans HCW2.out.os), HB7.out.tape.trans (HC2.out.tape.trans HCW2.out.tape), HB7.out.output.trans (HC2.out.output.trans HCW2.out.output), by have := HB7.out.size; omega, fun b hb hnb => (HB7.out.block b (by omega)).trans ((HC2.out.block b (by omega) (fun h => by rcases h with h | h; exact hnb h; omega)).trans (HCW2.out.block b hb hnb))⟩
     ·obtain ⟨g1, g2⟩ := HRC.out C x0 h1 h2 h3 h4 h5
      exact ⟨g1, by rw [g2, ← h4, List.take_length]⟩
end Go.Proofs.Ytjbkjfefjhbolaa
