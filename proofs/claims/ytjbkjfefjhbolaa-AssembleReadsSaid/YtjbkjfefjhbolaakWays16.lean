import Derived.Test.YtjbkjfefjhbolaakCells16
import Derived.Test.YtjbkjfefjhbolaakOf14
import Derived.Test.YtjbkjfefjhbolaakValue16
set_option linter.all false
open Array renaming getElem?_setIfInBounds_ne → zLP, getElem?_setIfInBounds_self_of_lt → zLQ, getElem?_eq_getElem → zLR
open List renaming take_succ_eq_append_getElem → zLS, length_take → zLT, length_append → zLU, range → zLV
namespace Go.Proofs.Ytjbkjfefjhbolaa
open Go.RowKit Go.Shr
theorem zG1 {P : List Int} (hb : ∀ (j : Nat) (h : j < P.length), -1 ≤ P[j] ∧ P[j] < (j : Int)) {lf p : Nat} (hp : p ∈ Go.Shr.chain P lf) (hlf : lf < P.length) (hpl : p < P.length) (i : Nat) :
  (i ∈ Go.Shr.chain P lf ∧ P[p] < (i : Int)) ↔ ((i ∈ Go.Shr.chain P lf ∧ p < i) ∨ i = p) := by
 obtain ⟨A, hA, hA2⟩ := zBH P p lf hp
 have hc := xU hb hpl
 have hpb := hb p hpl
 constructor
 ·rintro ⟨h1, h2⟩
  have h1' := h1
  rw [hA, hc] at h1'
  rcases List.mem_append.1 h1' with h | h
  ·exact .inl ⟨h1, hA2 i h⟩
  ·rcases List.mem_cons.1 h with h | h
   ·exact .inr h
   ·by_cases hn : P[p] < 0
    ·rw [qC _ hn] at h; cases h
    ·obtain ⟨r, hr⟩ : ∃ r : Nat, P[p] = (r : Int) := ⟨P[p].toNat, by omega⟩
     rw [hr, yF] at h
     have := zAY _ _ _ h
     omega
 ·rintro (⟨h1, h2⟩ | rfl)
  ·exact ⟨h1, by omega⟩
  ·exact ⟨hp, by omega⟩
theorem zJj {P : List Int} (hb : ∀ (j : Nat) (h : j < P.length), -1 ≤ P[j] ∧ P[j] < (j : Int)) {lf p r : Nat} (hp : p ∈ Go.Shr.chain P lf) (hpl : p < P.length) (hr : P[p] = (r : Int)) : r ∈ Go.Shr.chain P lf := by
 obtain ⟨A, hA, _⟩ := zBH P p lf hp
 rw [hA, xU hb hpl, hr, yF]
 exact List.mem_append_right _ (List.mem_cons_of_mem _ (zAu _ _))
def inC (l : List Fl) (k i : Nat) : Nat := (((zG l l.length).take k).filter fun f => (Go.Shr.chain (par l) f).contains i).length
theorem zKa (l : List Fl) (i : Nat) : inC l (zG l l.length).length i = inN l i := by unfold inC inN; rw [List.take_length]
theorem zI6 {l : List Fl} {k : Nat} (h : k < (zG l l.length).length) (i : Nat) : inC l (k + 1) i = inC l k i + if i ∈ Go.Shr.chain (par l) (zG l l.length)[k] then 1 else 0 := by
 unfold inC
 rw [zLS h, List.filter_append, zLU]
 congr 1
 by_cases hc : i ∈ Go.Shr.chain (par l) (zG l l.length)[k]
 ·rw [if_pos hc]; simp [hc]
 ·rw [if_neg hc]; simp [hc]
theorem zK4 (l : List Fl) (k i : Nat) : inC l k i ≤ k := by
 unfold inC
 have := List.length_filter_le (fun f => (Go.Shr.chain (par l) f).contains i) ((zG l l.length).take k)
 rw [zLT] at this; omega
def zHJ (l : List Fl) (i : Nat) (cur : Array Value) : Prop := cur.size = l.length * 4 ∧ ∀ (j : Nat) (v : Value), (lvs l (zLV i))[j]? = some v → cur[j]? = some v
theorem zHJ.set {l : List Fl} {i : Nat} {cur : Array Value} (h : zHJ l i cur) (hi : i < l.length) :
  zHJ l (i + 1) ((((cur.setIfInBounds (i * 4) (.int .i64 (i : Int))).setIfInBounds (i * 4 + 1) (.int .i64 (lvR l i : Int))).setIfInBounds (i * 4 + 2) (.int .i64 (lvD l i : Int))).setIfInBounds (i * 4 + 3) (.int .i64 (flN l i).kind)) := by
 refine ⟨by simpa using h.1, fun j v hj => ?_⟩
 have hs := h.1
 rw [List.range_succ, zCg] at hj
 have hln : (lvs l (zLV i)).length = i * 4 := by rw [zJ4, List.length_range]
 by_cases hlt : j < i * 4
 ·rw [List.getElem?_append_left (by omega)] at hj
  rw [zLP (by omega), zLP (by omega), zLP (by omega), zLP (by omega)]
  exact h.2 j v hj
 ·rw [List.getElem?_append_right (by omega), hln] at hj
  have h4 : j - i * 4 < 4 := by
   have := (List.getElem?_eq_some_iff.1 hj).1
   simpa using this
  have hc : j = i * 4 ∨ j = i * 4 + 1 ∨ j = i * 4 + 2 ∨ j = i * 4 + 3 := by omega
  rcases hc with rfl | rfl | rfl | rfl
  ·rw [Nat.sub_self] at hj
   rw [zLP (by omega), zLP (by omega), zLP (by omega), zLQ (by omega)]
   exact hj
  ·rw [show i * 4 + 1 - i * 4 = 1 by omega] at hj
   rw [zLP (by omega), zLP (by omega), zLQ (by simp; omega)]
   exact hj
  ·rw [show i * 4 + 2 - i * 4 = 2 by omega] at hj
   rw [zLP (by omega), zLQ (by simp; omega)]
   exact hj
  ·rw [show i * 4 + 3 - i * 4 = 3 by omega] at hj
   rw [zLQ (by simp; omega)]
   exact hj
theorem zHJ.at {l : List Fl} {i k : Nat} {cur : Array Value} (h : zHJ l i cur) (hk : k < i) : cur[k * 4 + 1]? = some (.int .i64 (lvR l k : Int)) ∧ cur[k * 4 + 2]? = some (.int .i64 (lvD l k : Int)) := by
 obtain ⟨f0, f1, f2, f3⟩ := zBf l (zLV i) k (by simpa using hk)
 simp only [List.getElem_range] at f1 f2
 exact ⟨h.2 _ _ f1, h.2 _ _ f2⟩
def BQ.box0 (q : BQ) : Array Value := #[.slice q.sa q.n q.sc, .slice (some ⟨q.bk, 0, none⟩) q.n q.n, .slice (some ⟨q.bl, 0, none⟩) q.n q.n, .slice q.la q.m q.lc, .slice q.ca q.m q.cc, .slice none 0 0, .slice (some ⟨q.bi, 0, none⟩) q.n q.n, .bool false]
def BQ.okW (q : BQ) (w : World) (b : Nat) : Prop := b < w.heap.size ∧ b ≠ q.bk ∧ b ≠ q.bl ∧ b ≠ q.bi ∧ b ≠ q.bx
structure W0 (q : BQ) (w : World) : Prop where
 rx : Rw w q.bx q.box0 74
 rk : Rw w q.bk (madeCells #[.slice none 0 0] q.n) 22
 rl : Rw w q.bl (madeCells #[.int .i64 0, .int .i64 0, .int .i64 0, .int .i64 0] (q.n * 4)) 52
 ri : Rw w q.bi (madeCells #[.slice none 0 0] q.n) 22
 ne : q.bk ≠ q.bl ∧ q.bk ≠ q.bi ∧ q.bl ≠ q.bi ∧ q.bk ≠ q.bx ∧ q.bl ≠ q.bx ∧ q.bi ≠ q.bx
 s : Sl (q.okW w) w 4 q.sa q.n q.sc (fls q.l)
 leaves : Sl (q.okW w) w 4 q.la q.m q.lc (lvs q.l (zG q.l q.l.length))
def zKE (q : BQ) (w : World) (e : Ending) (w' : World) : Prop :=
 e = .returned (.tuple #[]) ∧ (∃ cur aa cc, KI w.heap.size w' q.bk q.n cur aa cc (fun k => zK (par q.l) k)) ∧ (∃ cur, Rw w' q.bl cur 52 ∧ zHJ q.l q.n cur) ∧
  (∃ cur aa cc K, KI w.heap.size w' q.bi q.n cur aa cc K ∧ ∀ i, i < q.n → (K i).length = inN q.l i) ∧ Chg (fun b => b = q.bk ∨ b = q.bl ∨ b = q.bi ∨ w.heap.size ≤ b) w w'
theorem KI.lower {B B' : Nat} {w : World} {bk n : Nat} {cur : Array Value} {aa : Nat → Option Addr} {cc : Nat → Nat} {K : Nat → List Int} (h : KI B w bk n cur aa cc K) (hB : B' ≤ B) : KI B' w bk n cur aa cc K :=
 ⟨h.row, h.at', fun k hk => (h.own k hk).mono hB, fun k g hk hg => ⟨(h.lt k g hk hg).1, (h.lt k g hk hg).2.1, by have := (h.lt k g hk hg).2.2; omega⟩, h.dis⟩
theorem KI.start {w : World} {bk n B : Nat} (h : Rw w bk (madeCells #[.slice none 0 0] n) 22) {K : Nat → List Int} (hK : ∀ k, K k = []) : KI B w bk n (madeCells #[.slice none 0 0] n) (fun _ => none) (fun _ => 0) K :=
 ⟨h, fun k hk => by rw [hK]; simp [madeCells, hk, Nat.mod_one], fun k hk => by rw [hK]; exact Own.nil _ _ _ _, fun k g _ ⟨_, _, h⟩ => (by cases h), fun k j g _ _ _ ⟨_, _, h⟩ => (by cases h)⟩
theorem KI.other {B : Nat} {w : World} {bk n : Nat} {cur : Array Value} {aa : Nat → Option Addr} {cc : Nat → Nat} {K : Nat → List Int} (h : KI B w bk n cur aa cc K) {b : Nat} (hb : bk ≠ b) (hn : ∀ j g, j < n → blk (aa j) g → g ≠ b) (j : Nat) (u : Value) : KI B (w.setCell ⟨b, j, none⟩ u) bk n cur aa cc K :=
 ⟨h.row.other (p := ⟨b, j, none⟩) hb u, h.at', fun k hk => (h.own k hk).setCell (p := ⟨b, j, none⟩) (fun g hg => hn k g hk hg) u, fun k g hk hg => by have := h.lt k g hk hg; simpa using this, h.dis⟩
structure WI1 (q : BQ) (w2 wr : World) (i : Nat) (cur : Array Value) (aa : Nat → Option Addr) (cc : Nat → Nat) (curl : Array Value) : Prop where
 ki : KI w2.heap.size wr q.bk q.n cur aa cc (fun k => zK ((par q.l).take i) k)
 rl : Rw wr q.bl curl 52
 lv : zHJ q.l i curl
 chg : Chg (fun b => b = q.bk ∨ b = q.bl ∨ w2.heap.size ≤ b) w2 wr
set_option maxHeartbeats 2000000 in
set_option maxRecDepth 100000 in
theorem zKQ (q : BQ) (hsm : q.l.length ≤ 1000) (hkid : ∀ x ∈ q.l, x.kids ≤ 1000) (hrp : ∀ x ∈ q.l, x.rep = 0 ∨ x.rep = 1 ∨ x.rep = 2) (w : World) (h : W0 q w) :
  Calls Try.prog 28 #[.pointer (some ⟨q.bx, 0, none⟩)] w (zKE q w) := by
 obtain ⟨ii, hii, hz0i, hz1i, hz2i⟩ := info_parts jR
 have hqn : q.n = q.l.length := rfl
 have y0 : w.cell? ⟨q.bx, 0, none⟩ = some (.slice q.sa q.n q.sc) := h.rx.cell 0
 have H := zH h
 have hxw := h.rx.lt; have hkw := h.rk.lt; have hlw := h.rl.lt; have hiw := h.ri.lt
 obtain ⟨nkl, nki, nli, nkx, nlx, nix⟩ := h.ne
 have HRP := zH hrp; have HKD := zH hkid
 have hmm : q.m ≤ 1000 := by have h1 := yW (l := q.l) (m := q.l.length); have h2 : q.m = (zG q.l q.l.length).length := rfl; omega
 have HPL := zH (zW q.l)
 have HQN := zH hqn
 clear h hrp hkid hqn
 go_enter Try.func28, Try.ntmps28
 go_wp2_with fail
 refine (zGJ q.sa q.n q.sc q.l w (H.out.s.mono (fun b hb h => hb) (by decide)) hsm HKD.out).mono ?_
 rintro e w2 ⟨aP, cP, rfl, oP, hb2⟩
 have hsz2 := hb2.size
 have HP0 := zH (oP.sl.mono (ok' := fun k => k < w2.heap.size ∧ w.heap.size ≤ k) (fun k hk h => ⟨hk, h.1⟩) (by decide))
 have HB2 := zH hb2
 have y0 : w2.cell? ⟨q.bx, 0, none⟩ = some (.slice q.sa q.n q.sc) := cb hb2 y0
 have HW1 : Hid (WI1 q w2 w2 0 (madeCells #[.slice none 0 0] q.n) (fun _ => none) (fun _ => 0) (madeCells #[.int .i64 0, .int .i64 0, .int .i64 0, .int .i64 0] (q.n * 4))) := zH
  ⟨KI.start (H.out.rk.below hb2) (fun k => by rw [List.take_zero]; exact zB0 _), H.out.rl.below hb2, ⟨by simp [madeCells, HQN.out], fun j v hj => by simp [lvs] at hj⟩, Chg.refl _ _⟩
 have HS2 : Hid (Sl (fun b => b < w.heap.size ∧ b ≠ q.bk ∧ b ≠ q.bl) w2 4 q.sa q.n q.sc (fls q.l)) := zH ((H.out.s.mono (ok' := fun b => b < w.heap.size ∧ b ≠ q.bk ∧ b ≠ q.bl) (fun b _ h => ⟨h.1, h.2.1, h.2.2.1⟩) (by decide)).below hb2)
 have RX2 := zH (H.out.rx.below hb2)
 clear oP hb2
 go_wp2_with fail
 go_loopw [20] (fun iv wr => ∃ (i : Nat) (cur : Array Value) (aa : Nat → Option Addr) (cc : Nat → Nat) (curl : Array Value), iv = .int .i64 (i : Int) ∧ i ≤ q.n ∧ Hid (WI1 q w2 wr i cur aa cc curl)) (fun iv _ => q.n - (intOf iv).toNat)
 case atStart => exact ⟨0, _, _, _, _, rfl, Nat.zero_le _, HW1⟩
 case round =>
  obtain ⟨i, cur, aa, cc, curl, rfl, hi, HI⟩ := hrel
  have hszr := HI.out.chg.size
  clear HW1
  by_cases hil : i < q.n
  ·have hil2 : i < q.l.length := by have := HQN.out; omega
   obtain ⟨bs, os, hsa, hbs, hsc⟩ := HS2.out.pos (by omega)
   obtain ⟨bp, op, hpa, hbp, hpc⟩ := HP0.out.pos (by omega)
   have hnS : ∀ b, b < w2.heap.size → b ≠ q.bk → b ≠ q.bl → ¬ (b = q.bk ∨ b = q.bl ∨ w2.heap.size ≤ b) := fun b h1 h2 h3 h => by omega
   obtain ⟨f0, f1, f2, f3⟩ := yB q.l i hil2
   have a0 := HI.out.chg.keep (hsc _ _ f0) (hnS _ (by omega) hbs.2.1 hbs.2.2)
   have a1 := HI.out.chg.keep (hsc _ _ f1) (hnS _ (by omega) hbs.2.1 hbs.2.2)
   have a2 := HI.out.chg.keep (hsc _ _ f2) (hnS _ (by omega) hbs.2.1 hbs.2.2)
   have a3 := HI.out.chg.keep (hsc _ _ f3) (hnS _ (by omega) hbs.2.1 hbs.2.2)
   rw [← Nat.add_assoc] at a1 a2 a3
   have hki : i < (par q.l).length := by rw [HPL.out]; exact hil2
   have p0 := HI.out.chg.keep (hpc _ _ (zO (par q.l) i hki)) (hnS _ hbp.1 (by omega) (by omega))
   have hqb := yI q.l i hki
   have hrep := HRP.out _ (List.getElem_mem hil2)
   have HFN : Hid (flN q.l i = q.l[i]) := zH (qS hil2)
   have hlv : lvR q.l i = zAj q.l (yD (par q.l) (par q.l)[i]) + rmI q.l[i].rep ∧ lvD q.l i = zBh q.l (yD (par q.l) (par q.l)[i]) + dmI q.l[i].rep := by
    unfold lvR lvD
    rw [xU (fun j hj => yI q.l j hj) hki, jI, zAq, HFN.out]
    unfold rmI dmI
    constructor
    ·split <;> omega
    ·split <;> omega
   have hlR : lvR q.l i ≤ 1000 := by have := zAE q.l (Go.Shr.chain (par q.l) i); have := xJ (par q.l) i; unfold lvR; omega
   have hlD : lvD q.l i ≤ 1000 := by have := zCp q.l (Go.Shr.chain (par q.l) i); have := xJ (par q.l) i; unfold lvD; omega
   have HKK : Hid ((flN q.l i).kind = q.l[i].kind) := zH (by rw [HFN.out])
   have HX : Hid ((par q.l).take (i + 1) = (par q.l).take i ++ [(par q.l)[i]]) := zH (zLS hki)
   generalize (par q.l)[i] = pi at *
   generalize q.l[i] = x at *
   obtain ⟨nm, rp, kd, kk⟩ := x
   dsimp only at a0 a1 a2 a3 hrep hlv HKK
   have HLV := zH hlv
   have HREP := zH hrep
   subst hpa
   have HSA := zH hsa
   rw [hsa]
   clear f0 f1 f2 f3 hsc hpc HFN hlv hsa hrep
   go_upto_region 5 with fail
   refine yE (fun wz hwz => ?_)
   have hbz : Below wr.heap.size wr wz := by rw [hwz]; exact ba (ba (b0 wr) _) _
   have r4 : Rw wz wr.heap.size #[.string nm, .int .i64 rp, .int .i64 kd, .int .i64 kk] 62 := by rw [hwz]; exact (Rw.new wr _ _).alloc _
   have r5 : Rw wz (wr.heap.size + 1) #[.int .i64 (i : Int), .int .i64 ((0 : Nat) : Int), .int .i64 ((0 : Nat) : Int), .int .i64 kd] 52 := by rw [hwz]; exact Rw.new' (by simp)
   clear hwz
   replace p0 := cb hbz p0
   obtain ⟨B5, hB5⟩ : ∃ B5, B5 = wr.heap.size + 1 := ⟨_, rfl⟩
   rw [← hB5] at r5 ⊢
   have hB45 : wr.heap.size ≠ B5 := by omega
   have h5r : wr.heap.size ≤ B5 := by omega
   have h5z := r5.lt
   have HBZ := zH hbz; have R4 := zH r4; have R5 := zH r5
   clear hB5 a0 a1 a2 a3 hbz r4 r5
   go_upto_if 34 with fail
   go_cut [6] from 34 to 68 (fun v wc => ∃ (r0 d0 : Nat) (cur' : Array Value) (aa' : Nat → Option Addr) (cc' : Nat → Nat), v = .int .i64 pi ∧ Hid (lvR q.l i = r0 + rmI rp ∧ lvD q.l i = d0 + dmI rp) ∧ r0 ≤ 1000 ∧ d0 ≤ 1000 ∧ Hid (KI w2.heap.size wc q.bk q.n cur' aa' cc' (fun k => zK ((par q.l).take (i + 1)) k)) ∧ Hid (Rw wc q.bl curl 52) ∧ Hid (Rw wc wr.heap.size #[.string nm, .int .i64 rp, .int .i64 kd, .int .i64 kk] 62) ∧ Hid (Rw wc B5 #[.int .i64 (i : Int), .int .i64 (r0 : Int), .int .i64 (d0 : Int), .int .i64 kd] 52) ∧ Hid (Chg (fun b => b = q.bk ∨ b = q.bl ∨ w2.heap.size ≤ b) w2 wc) ∧ Hid (∀ j g, j < q.n → blk (aa' j) g → g ≠ B5))
   case first =>
    by_cases hp : 0 ≤ pi
    rotate_left
    ·have hpf : (decide (0 ≤ pi)) = false := decide_eq_false hp
     have hpn : ¬ 0 ≤ pi := hp
     have e : (fun (k : Nat) => zK ((par q.l).take (i + 1)) k) = fun (k : Nat) => zK ((par q.l).take i) k := by
      funext k
      rw [HX.out, qK]
      have : ¬ (pi = (k : Int)) := by omega
      simp [this]
     have HE := zH e
     have HC0 : Hid (zAj q.l (yD (par q.l) pi) = 0 ∧ zBh q.l (yD (par q.l) pi) = 0) := zH (by rw [qC _ (by omega)]; exact ⟨rfl, rfl⟩)
     clear hp e p0
     go_wp2_with fail
     go_meet
     case rel =>
      refine ⟨0, 0, cur, aa, cc, rfl, zH ?_, by omega, by omega, zH (by rw [HE.out]; exact HI.out.ki.below HBZ.out), zH (HI.out.rl.below HBZ.out), R4, R5, zH (HI.out.chg.trans (Chg.ofBelow HBZ.out) (fun b _ h => .inr (.inr (by have h' : wr.heap.size ≤ b := h; omega)))), zH (fun j g hj hg => by have := (HI.out.ki.lt j g hj hg).1; omega)⟩
      have := HLV.out
      rw [HC0.out.1, HC0.out.2] at this
      exact this
    ·obtain ⟨k, rfl⟩ : ∃ k : Nat, pi = k := ⟨pi.toNat, by omega⟩
     have hk : k < i := by omega
     have hkn : k < q.n := by omega
     have rxz := (RX2.out.chg HI.out.chg (fun h => by rcases h with h | h | h <;> omega)).below HBZ.out
     have hb1x : wz.cell? ⟨q.bx, 1, none⟩ = some (.slice (some ⟨q.bk, 0, none⟩) q.n q.n) := rxz.cell 1
     have hb2x : wz.cell? ⟨q.bx, 2, none⟩ = some (.slice (some ⟨q.bl, 0, none⟩) q.n q.n) := rxz.cell 2
     have HKIZ := zH (HI.out.ki.below HBZ.out)
     have hkq : wz.cell? ⟨q.bk, k, none⟩ = some (.slice (aa k) (zK ((par q.l).take i) k).length (cc k)) := (HKIZ.out.row.cell k).trans (HKIZ.out.at' k hkn)
     have hkl : (zK ((par q.l).take i) k).length ≤ 1000 := by have := zB1 ((par q.l).take i) k; rw [zLT] at this; omega
     have HOQ := zH (HKIZ.out.own k hkn)
     have HNB : Hid (∀ g, blk (aa k) g → g < wr.heap.size) := zH (fun g hg => (HI.out.ki.lt k g hkn hg).1)
     have hlk := HI.out.lv.at hk
     have HLK := zH hlk
     have HJ7 := zH (And.intro hb1x hkq)
     have HB2X := zH hb2x
     have HWZ : Hid (w2.heap.size ≤ wz.heap.size) := zH (by have := HBZ.out.size; omega)
     have hwz8 := HBZ.out.size
     generalize hKq : zK ((par q.l).take i) (k : Int) = Kq at *
     have HKQ := zH hKq
     clear hKq rxz hlk
     go_wp2_with fail
     clear hb1x hkq hb2x
     refine zF (fun w' => w'.cell? ⟨q.bx, 1, none⟩ = some (.slice (some ⟨q.bk, 0, none⟩) q.n q.n) ∧ w'.cell? ⟨q.bk, k, none⟩ = some (.slice (aa k) Kq.length (cc k))) [16] (by kernel_rfl) ?g57rgS (fun hHeld => ?g57rgR)
     case g57rgS => (try dsimp only); (first | exact HJ7.out | exact ⟨cb (ba (b0 _) _) hHeld.1, cb (ba (b0 _) _) hHeld.2⟩ | exact ⟨hc5.keep hHeld.1 (by rintro ⟨_, h, _⟩; omega), hc5.keep hHeld.2 (by rintro ⟨_, h, _⟩; omega)⟩)
     try dsimp only at hHeld
     refine zD [0, 1, 2, 3, 4, 5, 6, 7, 8, 9, 10, 11, 12] 4 (by kernel_rfl) (fun _ _ _ _ _ h => h) (by assumption) ?_
     iterate 13 ((apply YA.take rfl (by rfl); case hy => rintro w ⟨s0, s1⟩; go_simp; try with_reducible rfl); try simp only [pD])
     refine YA.nil ?_
     refine zB [13] (by kernel_rfl) (by simp) ?_
     refine zA.con 13 rfl (fun K hK => ?g57ro1) ?g57rm1
     case g57rm1 => exact zA.nil
     go_simp
     refine hK.out _ _ ?g57rs1 (fun hHeld => ?g57rt1)
     case g57rs1 => (try dsimp only); (first | exact HJ7.out | exact ⟨cb (ba (b0 _) _) hHeld.1, cb (ba (b0 _) _) hHeld.2⟩ | exact ⟨hc5.keep hHeld.1 (by rintro ⟨_, h, _⟩; omega), hc5.keep hHeld.2 (by rintro ⟨_, h, _⟩; omega)⟩)
     try dsimp only at hHeld
     clear hK K
     try simp only [pD]
     refine zB [14] (by kernel_rfl) (by simp) ?_
     refine zA.con 14 rfl (fun K hK => ?g57ro2) ?g57rm2
     case g57rm2 => exact zA.nil
     (refine zN (B := w2.heap.size) rfl _ _ _ _ rfl ii (.int .i64 0) 8 Try.underlying22 hii hz0i hz1i hz2i rfl rfl (HOQ.out.drew.alloc _) _ rfl _ _ (yP (e' := 3) Try.underlying22 (cur := #[.int .i64 (i : Int)]) (t := 3) (by refine Rw.new' ?_; simp) 1 1 (by rfl) (by simp [Value.oneCell'])) (by simp only [maxLen]; omega) (by omega) (by first | omega | (simp; omega) | simp) ?_; intro a5 cap5 w8 ho5 hc5 hn5)
     refine hK.out _ _ ?g57rs2 (fun hHeld => ?g57rt2)
     case g57rs2 => (try dsimp only); (first | exact HJ7.out | exact ⟨cb (ba (b0 _) _) hHeld.1, cb (ba (b0 _) _) hHeld.2⟩ | exact ⟨hc5.keep hHeld.1 (by rintro ⟨_, h, _⟩; omega), hc5.keep hHeld.2 (by rintro ⟨_, h, _⟩; omega)⟩)
     try dsimp only at hHeld
     clear hK K
     try simp only [pD]
     refine zD [15] 1 (by kernel_rfl) (fun _ _ _ _ _ h => h) (by assumption) ?_
     iterate 1 ((apply YA.take rfl (by rfl); case hy => rintro w ⟨s0, s1⟩; go_simp; try with_reducible rfl); try simp only [pD])
     refine YA.nil ?_
     refine zB [16] (by kernel_rfl) (by simp) ?_
     refine zA.lst 16 rfl (by kernel_rfl) (fun K hK => ?g57ro3) ?g57rm3
     case g57rm3 => exact zA.nil
     (have q5 : w8.cell? ⟨q.bk, k, none⟩ = some (.slice (aa k) Kq.length (cc k)) := hHeld.2); (have qrow := ((HKIZ.out.row.drew.alloc _).chg hc5 (by rintro ⟨_, h, _⟩; omega))); (have qf := qrow.frozen); (have ql := qrow.lt); go_simp
     refine hK.out _ _ ?_
     clear hK K
     try simp only [pD]
     refine zE (by kernel_rfl) ?_
     clear hHeld q5 qrow qf ql
     have hball : Below wz.heap.size wz (wz.drew.alloc (.cells #[.int .i64 (i : Int)] 3)) := ba (b0 wz).drew _
     have hki := (HKIZ.out.below hball).push k hkn (a' := a5) (c' := cap5) (x := (i : Int)) (by omega) (by rw [HKQ.out, yT]; exact ho5) hc5 hn5
     simp only [HKQ.out] at hki
     have e : (fun (j : Nat) => zK ((par q.l).take (i + 1)) j) = fun j => if j = k then Kq ++ [(i : Int)] else zK ((par q.l).take i) j := by
      funext j
      rw [HX.out, qK, zLT, show min i (par q.l).length = i by have := HPL.out; omega]
      by_cases hj : j = k
      ·subst hj; simp [HKQ.out]
      ·have : ¬ ((k : Int) = (j : Int)) := by omega
       simp [hj, this]
     rw [← e] at hki
     have HKN := zH hki
     have h5n : ¬ (blk (aa k) B5 ∧ w2.heap.size ≤ B5 ∧ 0 < cc k) := fun h => by have := HNB.out _ h.1; omega
     have h4n : ¬ (blk (aa k) wr.heap.size ∧ w2.heap.size ≤ wr.heap.size ∧ 0 < cc k) := fun h => by have := HNB.out _ h.1; omega
     have HR5 := zH (((R5.out.below hball).chg hc5 h5n).other (p := ⟨q.bk, k, none⟩) (by show B5 ≠ q.bk; omega) (.slice a5 (Kq.length + 1) cap5))
     have HR4 := zH (((R4.out.below hball).chg hc5 h4n).other (p := ⟨q.bk, k, none⟩) (by show wr.heap.size ≠ q.bk; omega) (.slice a5 (Kq.length + 1) cap5))
     have HRL := zH ((((HI.out.rl.below HBZ.out).below hball).chg hc5 (by rintro ⟨_, h, _⟩; omega)).other (p := ⟨q.bk, k, none⟩) (by show q.bl ≠ q.bk; omega) (.slice a5 (Kq.length + 1) cap5))
     have HCN := zH ((((HI.out.chg.trans (Chg.ofBelow HBZ.out) (fun b _ h => .inr (.inr (by have h' : wr.heap.size ≤ b := h; omega)))).trans (Chg.ofBelow hball) (fun b _ h => .inr (.inr (by have h' : wz.heap.size ≤ b := h; omega)))).trans hc5 (fun b _ h => .inr (.inr h.2.1))).setCell (p := ⟨q.bk, k, none⟩) (.inr (.inl rfl)) (.slice a5 (Kq.length + 1) cap5))
     have HNB5 : Hid (∀ j g, j < q.n → blk ((fun j => if j = k then a5 else aa j) j) g → g ≠ B5) := zH (fun j g hj hg => by
      by_cases ej : j = k
      ·subst ej
       simp only [if_true] at hg
       rcases hn5 g hg with h | h
       ·have := HNB.out g h; omega
       ·have h3 := h; simp at h3; omega
      ·simp only [if_neg ej] at hg
       have := (HI.out.ki.lt j g hj hg).1; omega)
     clear ho5 hc5 hn5 hki e h5n h4n hball p0
     go_upto_region 8 with fail
     refine yE (fun w9 hw9 => ?_)
     rw [← hw9] at HKN HR5 HR4 HRL HCN
     clear hw9
     obtain ⟨r0, hr0⟩ : ∃ r, r = lvR q.l k := ⟨_, rfl⟩
     obtain ⟨d0, hd0⟩ : ∃ r, r = lvD q.l k := ⟨_, rfl⟩
     have HLE : Hid (lvR q.l i = r0 + rmI rp ∧ lvD q.l i = d0 + dmI rp) := zH (by
      have h := HLV.out
      rw [yF] at h
      rw [hr0, hd0]
      exact h)
     have hr0l : r0 ≤ 1000 := by have := HLE.out.1; omega
     have hd0l : d0 ≤ 1000 := by have := HLE.out.2; omega
     have hc1 : curl[k * 4 + 1]? = some (.int .i64 (r0 : Int)) := by rw [hr0]; exact HLK.out.1
     have hc2 : curl[k * 4 + 2]? = some (.int .i64 (d0 : Int)) := by rw [hd0]; exact HLK.out.2
     have hbx2 : w9.cell? ⟨q.bx, 2, none⟩ = some (.slice (some ⟨q.bl, 0, none⟩) q.n q.n) := (RX2.out.chg HCN.out (fun h => by rcases h with h | h | h <;> omega)).cell 2
     have HC12 := zH (And.intro hc1 hc2)
     have HBX2 := zH hbx2
     have h5l : q.bl ≠ B5 := by omega
     have h5x : q.bx ≠ B5 := by omega
     clear hr0 hd0 hc1 hc2 hbx2 hlR hlD HLK HJ7 HB2X HOQ
     refine zF (fun w' => w'.cell? ⟨q.bx, 2, none⟩ = some (.slice (some ⟨q.bl, 0, none⟩) q.n q.n) ∧ w'.cell? ⟨q.bl, k * 4 + 1, none⟩ = some (.int .i64 (r0 : Int)) ∧ w'.cell? ⟨q.bl, k * 4 + 2, none⟩ = some (.int .i64 (d0 : Int))) [18, 19] (by kernel_rfl) ?g58rgS (fun hHeld => ?g58rgR)
     case g58rgS => (try dsimp only); (first | exact ⟨HBX2.out, (HRL.out.cell _).trans HC12.out.1, (HRL.out.cell _).trans HC12.out.2⟩ | exact ⟨bxo.trans HBX2.out, (rL.cell _).trans HC12.out.1, (rL.cell _).trans HC12.out.2⟩)
     try dsimp only at hHeld
     obtain ⟨W, hW⟩ : ∃ W', W' = w9.drew := ⟨_, rfl⟩; rw [← hW] at hHeld ⊢; (have r5 := Rw.ren hW HR5.out.drew); (have r4 := Rw.ren hW HR4.out.drew); (have hki := (show KI w2.heap.size W q.bk q.n _ _ _ _ by rw [hW]; exact HKN.out.below (b0 w9).drew)); (have hcg : Chg (fun b => b = q.bk ∨ b = q.bl ∨ w2.heap.size ≤ b) w2 W := by rw [hW]; exact HCN.out.drew); (have rl0 := Rw.ren hW HRL.out.drew); (have bx0 : W.cell? ⟨q.bx, 2, none⟩ = w9.cell? ⟨q.bx, 2, none⟩ := by rw [hW]; rfl); clear hW
     refine zD [0, 1, 2, 3, 4, 5, 6, 7, 8, 9, 10, 11, 12, 13, 14, 15, 16] 3 (by kernel_rfl) (fun _ _ _ _ _ h => h) (by assumption) ?_
     iterate 17 ((apply YA.take rfl (by rfl); case hy => rintro w ⟨s0, s1, s2⟩; go_simp; try with_reducible rfl); try simp only [pD])
     refine YA.nil ?_
     refine zB [17] (by kernel_rfl) (by simp) ?_
     refine zA.con 17 rfl (fun K hK => ?g58ro1) ?g58rm1
     case g58rm1 => exact zA.nil
     (have rL := rl0.other (p := ⟨B5, 1, none⟩) h5l (.int .i64 (r0 : Int))); (have bxo : (W.setCell ⟨B5, 1, none⟩ (.int .i64 (r0 : Int))).cell? ⟨q.bx, 2, none⟩ = w9.cell? ⟨q.bx, 2, none⟩ := by rw [World.cell?_of_block (a := ⟨q.bx, 2, none⟩) (w := W) (Below.heap_setCell W ⟨B5, 1, none⟩ _ q.bx h5x)]; exact bx0); (have y1 := r5.cell 1); (have qf := r5.frozen); (have ql := r5.lt); go_simp; (have r51 := r5.set 1 (.int .i64 (r0 : Int))); (have r41 := r4.other (p := ⟨B5, 1, none⟩) hB45 (.int .i64 (r0 : Int))); clear y1 qf ql
     refine hK.out _ _ ?g58rs1 (fun hHeld => ?g58rt1)
     case g58rs1 => (try dsimp only); (first | exact ⟨HBX2.out, (HRL.out.cell _).trans HC12.out.1, (HRL.out.cell _).trans HC12.out.2⟩ | exact ⟨bxo.trans HBX2.out, (rL.cell _).trans HC12.out.1, (rL.cell _).trans HC12.out.2⟩)
     try dsimp only at hHeld
     clear hK K
     try simp only [pD]
     refine zB [18] (by kernel_rfl) (by simp) ?_
     refine zA.lst 18 rfl (by kernel_rfl) (fun K hK => ?g58ro2) ?g58rm2
     case g58rm2 => exact zA.nil
     go_simp
     refine hK.out _ _ ?_
     clear hK K
     try simp only [pD]
     refine zB [19] (by kernel_rfl) (by simp) ?_
     refine zA.lst 19 rfl (by kernel_rfl) (fun K hK => ?g58ro3) ?g58rm3
     case g58rm3 => exact zA.nil
     (have y2 := r51.cell 2); (have qf := r51.frozen); (have ql := r51.lt); go_simp; (have r52 := r51.set 2 (.int .i64 (d0 : Int))); (have r42 := r41.other (p := ⟨B5, 2, none⟩) hB45 (.int .i64 (d0 : Int))); (have rL2 := rL.other (p := ⟨B5, 2, none⟩) h5l (.int .i64 (d0 : Int))); clear y2 qf ql
     refine hK.out _ _ ?_
     clear hK K
     try simp only [pD]
     refine zE (by kernel_rfl) ?_
     have HKF := zH ((hki.other (b := B5) (by omega) HNB5.out 1 (.int .i64 (r0 : Int))).other (b := B5) (by omega) HNB5.out 2 (.int .i64 (d0 : Int)))
     have HCF := zH ((hcg.setCell (p := ⟨B5, 1, none⟩) (.inr (.inr (.inr (by show w2.heap.size ≤ B5; omega)))) (.int .i64 (r0 : Int))).setCell (p := ⟨B5, 2, none⟩) (.inr (.inr (.inr (by show w2.heap.size ≤ B5; omega)))) (.int .i64 (d0 : Int)))
     have HRF := zH rL2
     have H4F := zH r42; have H5F := zH r52
     clear hHeld hki hcg rL2 r42 r52 rL r41 r51 rl0 r4 r5 bx0 bxo
     go_wp2_with fail
     go_meet
     case rel => exact ⟨r0, d0, _, _, _, rfl, HLE, hr0l, hd0l, HKF, HRF, H4F, H5F, HCF, HNB5⟩
   case rest =>
    obtain ⟨r0, d0, cur', aa', cc', rfl, HLE, hr0, hd0, HKI, HRL, HR4, HR5, HCG, HNB⟩ := hcut
    obtain ⟨wA, rfl⟩ : ∃ wo : World, wo = wc := ⟨_, rfl⟩
    have hc5 := HR5.out.lt
    have x1 : wA.cell? ⟨B5, 1, none⟩ = some (.int .i64 (r0 : Int)) := HR5.out.cell 1
    have x7 : wA.cell? ⟨wr.heap.size, 1, none⟩ = some (.int .i64 rp) := HR4.out.cell 1
    have qf := HR5.out.frozen
    have ql := HR5.out.lt
    go_upto_if 71 with fail
    go_cut [6] from 69 to 75 (fun v wd => v = .int .i64 pi ∧ Hid (wd = wA.setCell ⟨B5, 1, none⟩ (.int .i64 (lvR q.l i : Int)) ∨ (wd = wA ∧ lvR q.l i = r0)))
    case first =>
     have hq3 := HREP.out
     have HE := zH HLE.out.1
     generalize lvR q.l i = R at *
     rcases hq3 with hq | hq | hq
     all_goals
      first | (have hb2 : (rp == 2) = true := by rw [hq]; rfl) | (have hb2 : (rp == 2) = false := by rw [hq]; rfl)
      have HQ := zH hq
      clear hq
      go_wp2_with fail
      go_meet
      case rel =>
       refine ⟨rfl, zH ?_⟩
       have e := HE.out
       rw [HQ.out] at e
       first
        | exact .inr ⟨rfl, by rw [e]; rfl⟩
        | (refine .inl ?_; have e' : R = r0 + 1 := e; rw [e']; rfl)
    case rest =>
     obtain ⟨rfl, HWD⟩ := hcut
     clear x1 x7 qf ql
     obtain ⟨wB, rfl⟩ : ∃ wo : World, wo = wc := ⟨_, rfl⟩
     have HB5 : Hid (Rw wB B5 #[.int .i64 (i : Int), .int .i64 (lvR q.l i : Int), .int .i64 (d0 : Int), .int .i64 kd] 52 ∧ Rw wB wr.heap.size #[.string nm, .int .i64 rp, .int .i64 kd, .int .i64 kk] 62) := zH (by
      rcases HWD.out with h | ⟨h, h2⟩
      ·rw [h]; exact ⟨HR5.out.set 1 _, HR4.out.other (p := ⟨B5, 1, none⟩) hB45 _⟩
      ·rw [h, h2]; exact ⟨HR5.out, HR4.out⟩)
     have x2 : wB.cell? ⟨B5, 2, none⟩ = some (.int .i64 (d0 : Int)) := HB5.out.1.cell 2
     have x7 : wB.cell? ⟨wr.heap.size, 1, none⟩ = some (.int .i64 rp) := HB5.out.2.cell 1
     have qf := HB5.out.1.frozen
     have ql := HB5.out.1.lt
     go_upto_if 78 with fail
     go_cut [6] from 76 to 82 (fun v wd => v = .int .i64 pi ∧ Hid (wd = wB.setCell ⟨B5, 2, none⟩ (.int .i64 (lvD q.l i : Int)) ∨ (wd = wB ∧ lvD q.l i = d0)))
     case first =>
      have hq3 := HREP.out
      have HE := zH HLE.out.2
      generalize lvD q.l i = R at *
      rcases hq3 with hq | hq | hq
      all_goals
       first | (have hb2 : (rp != 0) = true := by rw [hq]; rfl) | (have hb2 : (rp != 0) = false := by rw [hq]; rfl)
       have HQ := zH hq
       clear hq
       go_wp2_with fail
       go_meet
       case rel =>
        refine ⟨rfl, zH ?_⟩
        have e := HE.out
        rw [HQ.out] at e
        first
         | exact .inr ⟨rfl, by rw [e]; rfl⟩
         | (refine .inl ?_; have e' : R = d0 + 1 := e; rw [e']; rfl)
     case rest =>
      obtain ⟨rfl, HWE⟩ := hcut
      clear x2 x7 qf ql
      obtain ⟨wC, rfl⟩ : ∃ wo : World, wo = wc := ⟨_, rfl⟩
      have HC5 : Hid (Rw wC B5 #[.int .i64 (i : Int), .int .i64 (lvR q.l i : Int), .int .i64 (lvD q.l i : Int), .int .i64 kd] 52) := zH (by
       rcases HWE.out with h | ⟨h, h2⟩
       ·rw [h]; exact HB5.out.1.set 2 _
       ·rw [h, h2]; exact HB5.out.1)
      have HCA : Hid (Chg (fun b => b = B5) wA wC) := zH (by
       have h1 : Chg (fun b => b = B5) wA wB := by
        rcases HWD.out with h | ⟨h, _⟩
        ·rw [h]; exact zCV wA B5 1 _
        ·rw [h]; exact Chg.refl _ _
       rcases HWE.out with h | ⟨h, _⟩
       ·rw [h]; exact h1.trans (zCV wB B5 2 _) (fun _ _ h => h)
       ·rw [h]; exact h1)
      have hKC : KI w2.heap.size wC q.bk q.n cur' aa' cc' (fun k => zK ((par q.l).take (i + 1)) k) := by
       have h1 : KI w2.heap.size wB q.bk q.n cur' aa' cc' (fun k => zK ((par q.l).take (i + 1)) k) := by
        rcases HWD.out with h | ⟨h, _⟩
        ·rw [h]; exact HKI.out.other (by omega) HNB.out 1 _
        ·rw [h]; exact HKI.out
       rcases HWE.out with h | ⟨h, _⟩
       ·rw [h]; exact h1.other (by omega) HNB.out 2 _
       ·rw [h]; exact h1
      have HKC := zH hKC
      have HRLC := zH (HRL.out.chg HCA.out (fun h => by have h' : q.bl = B5 := h; omega))
      have HCC := zH (HCG.out.trans HCA.out (fun b _ h => .inr (.inr (by have h' : b = B5 := h; omega))))
      have hbx2 : wC.cell? ⟨q.bx, 2, none⟩ = some (.slice (some ⟨q.bl, 0, none⟩) q.n q.n) := (RX2.out.chg HCC.out (fun h => by rcases h with h | h | h <;> omega)).cell 2
      have HS13 : Hid (wC.cell? ⟨q.bx, 2, none⟩ = some (.slice (some ⟨q.bl, 0, none⟩) q.n q.n) ∧ wC.cell? ⟨B5, 0, none⟩ = some (.int .i64 (i : Int)) ∧ wC.cell? ⟨B5, 1, none⟩ = some (.int .i64 (lvR q.l i : Int)) ∧ wC.cell? ⟨B5, 2, none⟩ = some (.int .i64 (lvD q.l i : Int)) ∧ wC.cell? ⟨B5, 3, none⟩ = some (.int .i64 kd)) :=
       zH ⟨hbx2, HC5.out.cell 0, HC5.out.cell 1, HC5.out.cell 2, HC5.out.cell 3⟩
      have HLVN : Hid (zHJ q.l (i + 1) ((((curl.setIfInBounds (i * 4) (.int .i64 (i : Int))).setIfInBounds (i * 4 + 1) (.int .i64 (lvR q.l i : Int))).setIfInBounds (i * 4 + 2) (.int .i64 (lvD q.l i : Int))).setIfInBounds (i * 4 + 3) (.int .i64 kd))) := zH (by
       have h := HI.out.lv.set hil2
       rw [HKK.out] at h
       exact h)
      have hcs : i * 4 + 3 < curl.size := by have := HI.out.lv.1; omega
      have hiq : (i : Int) < (q.n : Int) := by omega
      clear hKC hbx2 HLE HLV HREP HKI HRL HR4 HR5 HCG HWD HWE HB5 HC5 HCA
      generalize lvR q.l i = R at *
      generalize lvD q.l i = D at *
      go_wp2_with fail
      refine zF (fun w' => w'.cell? ⟨q.bx, 2, none⟩ = some (.slice (some ⟨q.bl, 0, none⟩) q.n q.n) ∧ w'.cell? ⟨B5, 0, none⟩ = some (.int .i64 (i : Int)) ∧ w'.cell? ⟨B5, 1, none⟩ = some (.int .i64 (R : Int)) ∧ w'.cell? ⟨B5, 2, none⟩ = some (.int .i64 (D : Int)) ∧ w'.cell? ⟨B5, 3, none⟩ = some (.int .i64 kd)) [7] (by kernel_rfl) ?g59rgS (fun hHeld => ?g59rgR)
      case g59rgS => (try dsimp only); (exact HS13.out)
      try dsimp only at hHeld
      refine zD [0, 1, 2, 3, 4, 5, 6] 1 (by kernel_rfl) (fun _ _ _ _ _ h => h) (by assumption) ?_
      iterate 7 ((apply YA.take rfl (by rfl); case hy => rintro w ⟨s0, s1, s2, s3, s4⟩; go_simp; try with_reducible rfl); try simp only [pD])
      refine YA.nil ?_
      refine zB [7] (by kernel_rfl) (by simp) ?_
      refine zA.lst 7 rfl (by kernel_rfl) (fun K hK => ?g59ro1) ?g59rm1
      case g59rm1 => exact zA.nil
      (have rl := HRLC.out); (have v0 := (rl.cell (i * 4)).trans (zLR (show i * 4 < curl.size by omega))); (have v1 := (rl.cell (i * 4 + 1)).trans (zLR (show i * 4 + 1 < curl.size by omega))); (have v2 := (rl.cell (i * 4 + 2)).trans (zLR (show i * 4 + 2 < curl.size by omega))); (have v3 := (rl.cell (i * 4 + 3)).trans (zLR hcs)); (have vf := rl.frozen); (have vl := rl.lt); go_simp
      refine hK.out _ _ ?_
      clear hK K
      try simp only [pD]
      refine zE (by kernel_rfl) ?_
      have HRLN := zH ((((rl.drew.set (i * 4) (.int .i64 (i : Int))).set (i * 4 + 1) (.int .i64 (R : Int))).set (i * 4 + 2) (.int .i64 (D : Int))).set (i * 4 + 3) (.int .i64 kd))
      have hnbl : ∀ j g, j < q.n → blk (aa' j) g → g ≠ q.bl := fun j g hj hg => by have := (HKC.out.lt j g hj hg).2.2; omega
      have HKN := zH (((((HKC.out.below (b0 wC).drew).other nkl hnbl (i * 4) (.int .i64 (i : Int))).other nkl hnbl (i * 4 + 1) (.int .i64 (R : Int))).other nkl hnbl (i * 4 + 2) (.int .i64 (D : Int))).other nkl hnbl (i * 4 + 3) (.int .i64 kd))
      have HCN := zH ((((HCC.out.drew.setCell (p := ⟨q.bl, i * 4, none⟩) (.inr (.inr (.inl rfl))) (.int .i64 (i : Int))).setCell (p := ⟨q.bl, i * 4 + 1, none⟩) (.inr (.inr (.inl rfl))) (.int .i64 (R : Int))).setCell (p := ⟨q.bl, i * 4 + 2, none⟩) (.inr (.inr (.inl rfl))) (.int .i64 (D : Int))).setCell (p := ⟨q.bl, i * 4 + 3, none⟩) (.inr (.inr (.inl rfl))) (.int .i64 kd))
      clear hHeld rl v0 v1 v2 v3 vf vl hnbl
      go_wp2_with fail
      go_roundw
      case rel => exact ⟨i + 1, cur', aa', cc', _, by go_num, by omega, zH ⟨HKN.out, HRLN.out, HLVN.out, HCN.out⟩⟩
      case measure => simp [intOf]; omega
  ·have hie : i = q.n := by omega
   subst hie
   have hkf := HI.out.ki
   rw [List.take_of_length_le (by have := HPL.out; have := HQN.out; omega)] at hkf
   have HKF := zH hkf
   obtain ⟨w3, rfl⟩ : ∃ wo : World, wo = wr := ⟨_, rfl⟩
   have hnS : ∀ b, b < w2.heap.size → b ≠ q.bk → b ≠ q.bl → ¬ (b = q.bk ∨ b = q.bl ∨ w2.heap.size ≤ b) := fun b h1 h2 h3 h => by omega
   have RX3 := zH (RX2.out.chg HI.out.chg (hnS _ (by omega) (fun h => nkx h.symm) (fun h => nlx h.symm)))
   have RI3 := zH ((H.out.ri.below HB2.out).chg HI.out.chg (hnS _ (by omega) (fun h => nki h.symm) (fun h => nli h.symm)))
   have HL3 : Hid (Sl (fun b => b < w.heap.size ∧ b ≠ q.bi) w3 4 q.la q.m q.lc (lvs q.l (zG q.l q.l.length))) := zH ((H.out.leaves.below HB2.out).go (S := fun b => b = q.bk ∨ b = q.bl ∨ w2.heap.size ≤ b) HI.out.chg (fun b _ h => ⟨hnS b (by have := h.1; omega) h.2.1 h.2.2.1, h.1, h.2.2.2.1⟩) (by decide))
   have HP3 : Hid (Sl (fun b => w.heap.size ≤ b ∧ b < w2.heap.size) w3 1 aP q.n cP (zQ (par q.l))) := zH (HP0.out.go (S := fun b => b = q.bk ∨ b = q.bl ∨ w2.heap.size ≤ b) HI.out.chg (fun b _ h => ⟨hnS b h.1 (by have := h.2; omega) (by have := h.2; omega), h.2, h.1⟩) (by decide))
   have HRL3 := zH HI.out.rl; have HLV3 := zH HI.out.lv; have HC3 := zH HI.out.chg
   have HK0 : Hid (KI w3.heap.size w3 q.bi q.n (madeCells #[.slice none 0 0] q.n) (fun _ => none) (fun _ => 0) (fun _ => [])) := zH (KI.start RI3.out (fun _ => rfl))
   have y3 : w3.cell? ⟨q.bx, 3, none⟩ = some (.slice q.la q.m q.lc) := RX3.out.cell 3
   clear hil hkf hnS HI
   go_wp2_with fail
   clear y3
   go_loopw [96] (fun kv wr => ∃ (k : Nat) (cur : Array Value) (aa : Nat → Option Addr) (cc : Nat → Nat) (K : Nat → List Int), kv = .int .i64 (k : Int) ∧ k ≤ q.m ∧ Hid (KI w3.heap.size wr q.bi q.n cur aa cc K) ∧ Hid (∀ i, i < q.n → (K i).length = inC q.l k i) ∧ Hid (Chg (fun b => b = q.bi ∨ w3.heap.size ≤ b) w3 wr)) (fun kv _ => q.m - (intOf kv).toNat)
   case atStart => exact ⟨0, _, _, _, _, rfl, Nat.zero_le _, HK0, zH (fun i _ => by simp [inC]), zH (Chg.refl _ _)⟩
   case round =>
    clear HK0
    obtain ⟨k, cur, aa, cc, K, rfl, hk, HKI, HKL, HC⟩ := hrel
    have hszr := HC.out.size
    by_cases hkm : k < q.m
    ·have hkm' : (k : Int) < (q.m : Int) := by omega
     obtain ⟨gL, oL, hla, hgL, hcL⟩ := HL3.out.pos (by omega)
     obtain ⟨f0, f1, f2, f3⟩ := zBf q.l (zG q.l q.l.length) k hkm
     have hnL : ¬ (gL = q.bi ∨ w3.heap.size ≤ gL) := fun h => by have := hgL.1; have := hgL.2; omega
     have a0 := HC.out.keep (hcL _ _ f0) hnL; have a1 := HC.out.keep (hcL _ _ f1) hnL; have a2 := HC.out.keep (hcL _ _ f2) hnL; have a3 := HC.out.keep (hcL _ _ f3) hnL
     rw [← Nat.add_assoc] at a1 a2 a3
     have hlf := (zAM q.l q.l.length k hkm).1
     have HIN := zH (fun i => zI6 hkm i)
     generalize (zG q.l q.l.length)[k]'hkm = lf at *
     have HLA := zH hla
     rw [hla]
     clear f0 f1 f2 f3 hcL hla hnL
     go_upto_region 18 with fail
     refine yE (fun wz hwz => ?_)
     have hbz : Below wr.heap.size wr wz := by rw [hwz]; exact ba (b0 wr) _
     have r8 : Rw wz wr.heap.size #[.int .i64 (lf : Int), .int .i64 (lvR q.l lf : Int), .int .i64 (lvD q.l lf : Int), .int .i64 (flN q.l lf).kind] 52 := by rw [hwz]; exact Rw.new wr _ _
     have z0 : wz.cell? ⟨wr.heap.size, 0, none⟩ = some (.int .i64 (lf : Int)) := r8.cell 0
     have HCZ := zH (HC.out.trans (Chg.ofBelow hbz) (fun b _ h => .inr (by have h' : wr.heap.size ≤ b := h; omega)))
     have HKZ := zH (HKI.out.below hbz)
     clear hwz hbz r8 a0 a1 a2 a3 HC HKI
     go_wp2_with fail
     clear z0
     go_loopw [9] (fun pv wr => ∃ (p : Int) (cur : Array Value) (aa : Nat → Option Addr) (cc : Nat → Nat) (K : Nat → List Int), pv = .int .i64 p ∧ -1 ≤ p ∧ p ≤ (lf : Int) ∧ Hid (∀ r : Nat, p = (r : Int) → r ∈ Go.Shr.chain (par q.l) lf) ∧ Hid (KI w3.heap.size wr q.bi q.n cur aa cc K) ∧ Hid (∀ i, i < q.n → (K i).length = inC q.l k i + if i ∈ Go.Shr.chain (par q.l) lf ∧ p < (i : Int) then 1 else 0) ∧ Hid (Chg (fun b => b = q.bi ∨ w3.heap.size ≤ b) w3 wr)) (fun pv _ => (intOf pv + 1).toNat)
     case atStart =>
      refine ⟨(lf : Int), cur, aa, cc, K, rfl, by omega, Int.le_refl _, zH (fun r h => by (have h' : lf = r := by omega); subst h'; exact zAu _ _), HKZ, zH (fun i hi => ?_), HCZ⟩
      rw [if_neg (fun h => by have := zAY _ _ _ h.1; omega)]
      exact HKL.out i hi
     case round =>
      clear HCZ HKZ HKL hszr
      obtain ⟨p, cur, aa, cc, K, rfl, hp1, hp2, HPM, HKI, HKL, HC⟩ := hrel
      have hszr := HC.out.size
      by_cases hp0 : 0 ≤ p
      ·obtain ⟨r, rfl⟩ : ∃ r : Nat, p = (r : Int) := ⟨p.toNat, by omega⟩
       have hrl : r < q.l.length := by omega
       have hrn : r < q.n := by have := HQN.out; omega
       have hrp : r < (par q.l).length := by rw [HPL.out]; exact hrl
       have hlfp : lf < (par q.l).length := by rw [HPL.out]; exact hlf
       have HMEM := zH (HPM.out r rfl)
       have HSTEP := zH (fun i => zG1 (fun j hj => yI q.l j hj) HMEM.out hlfp hrp i)
       have HUP := zH (fun (r' : Nat) (h : (par q.l)[r] = (r' : Int)) => zJj (fun j hj => yI q.l j hj) HMEM.out hrp h)
       have hqb := yI q.l r hrp
       obtain ⟨bp, op, hpa, hbp, hpc⟩ := HP3.out.pos (by omega)
       have p0 := HC.out.keep (hpc _ _ (zO (par q.l) r hrp)) (fun h => by have := hbp.1; have := hbp.2; have := HC3.out.size; rcases h with h | h <;> omega)
       generalize (par q.l)[r] = p' at *
       subst hpa
       have hkl : (K r).length ≤ 1001 := by rw [HKL.out r hrn]; have := zK4 q.l k r; split <;> omega
       have b6 : wr.cell? ⟨q.bx, 6, none⟩ = some (.slice (some ⟨q.bi, 0, none⟩) q.n q.n) := (RX3.out.chg HC.out (fun h => by have := HC3.out.size; rcases h with h | h <;> omega)).cell 6
       have hkq : wr.cell? ⟨q.bi, r, none⟩ = some (.slice (aa r) (K r).length (cc r)) := (HKI.out.row.cell r).trans (HKI.out.at' r hrn)
       have HOQ := zH (HKI.out.own r hrn)
       have HJ := zH (And.intro b6 hkq)
       have HP0' := zH p0
       have hw3 : q.bi < w3.heap.size := by have := HC3.out.size; omega
       have hx3 : q.bx < w3.heap.size := by have := HC3.out.size; omega
       have hrn' : (r : Int) < (q.n : Int) := by omega
       generalize hKr : K r = Kr at *
       have HKR := zH hKr
       clear hKr hpc HPM
       go_upto_region 21 with fail
       clear b6 hkq p0
       refine zF (fun w' => w'.cell? ⟨q.bx, 6, none⟩ = some (.slice (some ⟨q.bi, 0, none⟩) q.n q.n) ∧ w'.cell? ⟨q.bi, r, none⟩ = some (.slice (aa r) Kr.length (cc r))) [16] (by kernel_rfl) ?g60rgS (fun hHeld => ?g60rgR)
       case g60rgS => (try dsimp only); (first | exact HJ.out | exact ⟨cb (ba (b0 _) _) hHeld.1, cb (ba (b0 _) _) hHeld.2⟩ | exact ⟨hc5.keep hHeld.1 (by rintro ⟨_, h, _⟩; omega), hc5.keep hHeld.2 (by rintro ⟨_, h, _⟩; omega)⟩)
       try dsimp only at hHeld
       refine zD [0, 1, 2, 3, 4, 5, 6, 7, 8, 9, 10, 11, 12] 4 (by kernel_rfl) (fun _ _ _ _ _ h => h) (by assumption) ?_
       iterate 13 ((apply YA.take rfl (by rfl); case hy => rintro w ⟨s0, s1⟩; go_simp; try with_reducible rfl); try simp only [pD])
       refine YA.nil ?_
       refine zB [13] (by kernel_rfl) (by simp) ?_
       refine zA.con 13 rfl (fun K hK => ?g60ro1) ?g60rm1
       case g60rm1 => exact zA.nil
       go_simp
       refine hK.out _ _ ?g60rs1 (fun hHeld => ?g60rt1)
       case g60rs1 => (try dsimp only); (first | exact HJ.out | exact ⟨cb (ba (b0 _) _) hHeld.1, cb (ba (b0 _) _) hHeld.2⟩ | exact ⟨hc5.keep hHeld.1 (by rintro ⟨_, h, _⟩; omega), hc5.keep hHeld.2 (by rintro ⟨_, h, _⟩; omega)⟩)
       try dsimp only at hHeld
       clear hK K
       try simp only [pD]
       refine zB [14] (by kernel_rfl) (by simp) ?_
       refine zA.con 14 rfl (fun K hK => ?g60ro2) ?g60rm2
       case g60rm2 => exact zA.nil
       (refine zN (B := w3.heap.size) rfl _ _ _ _ rfl ii (.int .i64 0) 8 Try.underlying22 hii hz0i hz1i hz2i rfl rfl (HOQ.out.drew.alloc _) _ rfl _ _ (yP (e' := 3) Try.underlying22 (cur := #[.int .i64 (k : Int)]) (t := 3) (by refine Rw.new' ?_; simp) 1 1 (by rfl) (by simp [Value.oneCell'])) (by simp only [maxLen]; omega) (by omega) (by first | omega | (simp; omega) | simp) ?_; intro a5 cap5 w8 ho5 hc5 hn5)
       refine hK.out _ _ ?g60rs2 (fun hHeld => ?g60rt2)
       case g60rs2 => (try dsimp only); (first | exact HJ.out | exact ⟨cb (ba (b0 _) _) hHeld.1, cb (ba (b0 _) _) hHeld.2⟩ | exact ⟨hc5.keep hHeld.1 (by rintro ⟨_, h, _⟩; omega), hc5.keep hHeld.2 (by rintro ⟨_, h, _⟩; omega)⟩)
       try dsimp only at hHeld
       clear hK K
       try simp only [pD]
       refine zD [15] 1 (by kernel_rfl) (fun _ _ _ _ _ h => h) (by assumption) ?_
       iterate 1 ((apply YA.take rfl (by rfl); case hy => rintro w ⟨s0, s1⟩; go_simp; try with_reducible rfl); try simp only [pD])
       refine YA.nil ?_
       refine zB [16] (by kernel_rfl) (by simp) ?_
       refine zA.lst 16 rfl (by kernel_rfl) (fun K hK => ?g60ro3) ?g60rm3
       case g60rm3 => exact zA.nil
       (have q5 : w8.cell? ⟨q.bi, r, none⟩ = some (.slice (aa r) Kr.length (cc r)) := hHeld.2); (have qrow := ((HKI.out.row.drew.alloc _).chg hc5 (by rintro ⟨_, h, _⟩; omega))); (have qf := qrow.frozen); (have ql := qrow.lt); go_simp
       refine hK.out _ _ ?_
       clear hK K
       try simp only [pD]
       refine zE (by kernel_rfl) ?_
       clear hHeld q5 qrow qf ql
       have hball : Below wr.heap.size wr (wr.drew.alloc (.cells #[.int .i64 (k : Int)] 3)) := ba (b0 wr).drew _
       have hki := (HKI.out.below hball).push r hrn (a' := a5) (c' := cap5) (x := (k : Int)) hw3 (by rw [HKR.out, yT]; exact ho5) hc5 hn5
       simp only [HKR.out] at hki
       have HKN := zH hki
       have HKLN : Hid (∀ i, i < q.n → ((fun j => if j = r then Kr ++ [(k : Int)] else K j) i).length = inC q.l k i + if i ∈ Go.Shr.chain (par q.l) lf ∧ p' < (i : Int) then 1 else 0) := zH (fun i hi => by
        have h1 := HKL.out i hi
        have h2 := HSTEP.out i
        dsimp only
        by_cases e : i = r
        ·subst e
         rw [if_pos rfl, if_pos (h2.2 (.inr rfl)), zLU, ← HKR.out, h1, if_neg (fun h => by have := h.2; omega)]
         rfl
        ·rw [if_neg e, h1]
         congr 1
         by_cases hc : i ∈ Go.Shr.chain (par q.l) lf ∧ p' < (i : Int)
         ·rw [if_pos hc]
          rcases h2.1 hc with h | h
          ·rw [if_pos ⟨h.1, by have := h.2; omega⟩]
          ·exact absurd h e
         ·rw [if_neg hc, if_neg (fun h => hc (h2.2 (.inl ⟨h.1, by have := h.2; omega⟩)))])
       have HCN := zH (((HC.out.trans (Chg.ofBelow hball) (fun b _ h => .inr (by have h' : wr.heap.size ≤ b := h; omega))).trans hc5 (fun b _ h => .inr h.2.1)).setCell (p := ⟨q.bi, r, none⟩) (.inr (.inl rfl)) (.slice a5 (Kr.length + 1) cap5))
       have hpN : (((w8.setCell ⟨q.bi, r, none⟩ (.slice a5 (Kr.length + 1) cap5)).cell? ⟨bp, op + r, none⟩) = some (.int .i64 p')) := ((zCV w8 q.bi r (.slice a5 (Kr.length + 1) cap5)).keep (hc5.keep (cb hball HP0'.out) (fun h => by have := h.2.1; have := hbp.2; have := HC3.out.size; omega)) (fun h => by have h' : bp = q.bi := h; have := hbp.1; omega))
       clear ho5 hc5 hn5 hki hball
       go_upto_region 20 with fail
       refine yE (fun w9 hw9 => ?_)
       rw [← hw9] at HKN HCN hpN
       clear hw9
       go_wp2_with fail
       clear hpN
       go_roundw
       case rel => exact ⟨p', _, _, _, _, rfl, by omega, by omega, zH (fun r' h => HUP.out r' h), HKN, HKLN, HCN⟩
       case measure => simp [intOf]; omega
      ·have hpn : ¬ 0 ≤ p := hp0
       have hpf : decide (0 ≤ p) = false := decide_eq_false hp0
       have HKLN : Hid (∀ i, i < q.n → (K i).length = inC q.l (k + 1) i) := zH (fun i hi => by
        rw [HKL.out i hi, HIN.out i]
        congr 1
        by_cases hc : i ∈ Go.Shr.chain (par q.l) lf
        ·rw [if_pos hc, if_pos ⟨hc, by omega⟩]
        ·rw [if_neg hc, if_neg (fun h => hc h.1)])
       go_wp2_with fail
       go_roundw
       case rel => exact ⟨k + 1, cur, aa, cc, K, by go_num, by omega, HKI, HKLN, HC⟩
       case measure => simp [intOf]; omega
    ·have hke : k = q.m := by omega
     subst hke
     clear hkm
     go_wp2_with fail
     refine bodyPost_end (v := .tuple #[]) (by simp [results, Try.results28, go_sem]) rfl ?_
     have hw3 := HC3.out.size
     refine ⟨rfl, ⟨_, _, _, (HKF.out.chg HC.out (fun b hb hlt h => by rcases hb with hb | hb <;> rcases h with h | h <;> omega)).lower hsz2⟩, ⟨_, HRL3.out.chg HC.out (fun h => by rcases h with h | h <;> omega), HLV3.out⟩, ⟨_, _, _, K, HKI.out.lower (by omega), fun i hi => by rw [HKL.out i hi]; exact zKa q.l i⟩, ?_⟩
     exact ⟨HC.out.os.trans (HC3.out.os.trans HB2.out.os), HC.out.tape.trans (HC3.out.tape.trans HB2.out.tape), HC.out.output.trans (HC3.out.output.trans HB2.out.output), by omega, fun b hb hnb => (HC.out.block b (by omega) (fun h => by rcases h with h | h; exact hnb (.inr (.inr (.inl h))); omega)).trans ((HC3.out.block b (by omega) (fun h => by rcases h with h | h | h; exact hnb (.inl h); exact hnb (.inr (.inl h)); omega)).trans (HB2.out.block b hb))⟩
end Go.Proofs.Ytjbkjfefjhbolaa
