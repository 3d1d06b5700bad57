import Derived.Test.YtjbkjfefjhbolaakBld16
import Derived.Test.YtjbkjfefjhbolaakSch4
set_option linter.all false
open And renaming intro → zLP
open Nat renaming add_assoc → zLQ, lt_of_lt_of_le → zLR, le_trans → zLS
namespace Go.Proofs.Ytjbkjfefjhbolaa
open Go.RowKit Go.Shr
theorem zHP (s : ByteArray) (w : World) : Calls Try.prog 43 #[.string s] w fun e w' => ∃ b, e = .returned (.bool b) ∧ (s.size ≤ 100 → b = true) ∧ Below w.heap.size w w' := by
 go_enter Try.func43, Try.ntmps43
 go_wp2_with fail
 go_loopw [2] (fun r w' => ∃ pos : Nat, r = .bool false ∧ w' = w.iter s pos) (fun _ w' => s.size - w'.iterPos w.heap.size)
 case atStart => exact ⟨0, rfl, rfl⟩
 case round =>
  obtain ⟨pos, rfl, rfl⟩ := hrel
  have hB : ∀ q, Below w.heap.size w (w.iter s q) := fun q => ba (b0 w) _
  by_cases hp : pos < s.size
  ·have hnx : ∀ ty, (Instr.next (.pointer (some ⟨w.heap.size, 0, none⟩)) true ty).run Try.prog (w.iter s pos) = _ := fun ty => run_next_any w s pos ty hp
   have hwd := zEc s pos hp
   by_cases hq : 100 ≤ pos
   ·have hsz : ¬ s.size ≤ 100 := by omega
    have hq' : (100 : Int) ≤ (pos : Int) := by omega
    go_wp2_with fail
    go_ret
    exact ⟨false, rfl, fun h => absurd h hsz, hB _⟩
   ·have hq' : ¬ (100 : Int) ≤ (pos : Int) := by omega
    go_wp2_with fail
    go_roundw
    case rel => exact ⟨_, rfl, rfl⟩
    case measure => simp; omega
  ·have hnx : ∀ ty, (Instr.next (.pointer (some ⟨w.heap.size, 0, none⟩)) true ty).run Try.prog (w.iter s pos) = _ := fun ty => run_next_end w s pos ty hp
   go_wp2_with fail
   go_ret
   exact ⟨true, rfl, fun _ => rfl, hB _⟩
theorem zIY (n : Int) (s : ByteArray) (w : World) : Calls Try.prog 42 #[.agg #[.int .i64 n, .string s]] w fun e w' => ∃ b, e = .returned (.bool b) ∧ (s.size ≤ 100 → b = false) ∧ Below w.heap.size w w' := by
 go_enter Try.func42, Try.ntmps42
 go_wp2_with fail
 refine (zHP s _).mono ?_
 rintro e w' ⟨b, rfl, hb, hbe⟩
 have HB := zH hb
 have HBE := zH (bt (ba (b0 w) _) hbe)
 clear hb hbe
 go_wp2_with fail
 go_ret
 exact ⟨!b, rfl, fun h => by rw [HB.out h]; rfl, HBE.out⟩
set_option maxHeartbeats 400000 in
theorem zIJ (ok : Nat → Prop) (a : Option Addr) (c : Nat) (l : List Vc) (w : World) (h : Sl ok w 2 a l.length c (vcs l)) :
  Calls Try.prog 41 #[.slice a l.length c, .func (.func 42) #[] #[]] w fun e w' => ∃ r : Int, e = .returned (.int .i64 r) ∧ (r = -1 ∨ 0 ≤ r) ∧ ((∀ v ∈ l, v.s.size ≤ 100) → r = -1) ∧ Below w.heap.size w w' := by
 have hm := zLS h.le h.max
 unfold maxLen at hm
 have H := zH h
 clear h
 go_enter Try.func41, Try.ntmps41
 go_wp2_with fail
 go_loopw [8] (fun iv wr => ∃ i : Nat, iv = .int .i64 (i : Int) ∧ i ≤ l.length ∧ Hid (Below w.heap.size w wr)) (fun iv _ => l.length - (intOf iv).toNat)
 case atStart => exact ⟨0, rfl, Nat.zero_le _, zH (b0 w)⟩
 case round =>
  obtain ⟨i, rfl, hi, HB⟩ := hrel
  by_cases hil : i < l.length
  ·obtain ⟨b, o, rfl, _, hc⟩ := H.out.pos (by omega)
   obtain ⟨g0, g1⟩ := qL l i hil
   have e0 := cb HB.out (hc _ _ g0)
   have e1 := cb HB.out (hc _ _ g1)
   rw [← zLQ] at e1
   have HM := zH (List.getElem_mem hil)
   generalize l[i] = v at *
   clear hc g0 g1
   go_wp2_with fail
   refine (zIY v.n v.s _).mono ?_
   rintro e w' ⟨b, rfl, hb, hbe⟩
   have HBB := zH (bt HB.out hbe)
   have HL := zH hb
   clear hbe hb e0 e1
   cases b with
   | true =>
    go_wp2_with fail
    go_ret
    exact ⟨(i : Int), rfl, .inr (by omega), (fun h => by have := HL.out (h v HM.out); cases this), HBB.out⟩
   | false =>
    go_wp2_with fail
    go_roundw
    case rel => exact ⟨i + 1, by go_num, by omega, HBB⟩
    case measure => simp [intOf]; omega
  ·obtain rfl : i = l.length := by omega
   clear hil
   go_wp2_with fail
   go_ret
   exact ⟨-1, rfl, .inl rfl, fun _ => rfl, HB.out⟩
structure BS0 (q : BQ) (w : World) : Prop where
 s : Sl q.ok w 4 q.sa q.n q.sc (fls q.l)
 kids : zBd q.ok w q.bk q.n (fun i => KF q.l i)
 levOk : q.ok q.bl
 lev : ∀ (j : Nat) (v : Value), (lvs q.l (List.range q.n))[j]? = some v → w.cell? ⟨q.bl, j, none⟩ = some v
 leaves : Sl q.ok w 4 q.la q.m q.lc (lvs q.l (zG q.l q.l.length))
 cols : Sl q.ok w 3 q.ca q.m q.cc q.xs
 hd : HdG q.ok w q.L q.xs
 ins : ∃ K, zBd q.ok w q.bi q.n K ∧ ∀ i, i < q.n → (K i).length = inN q.l i
theorem BS0.go {q : BQ} {w w' : World} {S : Nat → Prop} (h : BS0 q w) (hc : Chg S w w') (hn : ∀ k, q.ok k → ¬ S k) : BS0 q w' :=
 ⟨h.s.chg hc hn, h.kids.go hc hn, h.levOk, fun j v hj => hc.keep (h.lev j v hj) (hn _ h.levOk), h.leaves.chg hc hn, h.cols.chg hc hn, h.hd.chg hc hn, by obtain ⟨K, h1, h2⟩ := h.ins; exact ⟨K, h1.go hc hn, h2⟩⟩
theorem zBd.mono {ok ok' : Nat → Prop} {w : World} (hk : ∀ k, ok k → ok' k) {b n : Nat} {K : Nat → List Int} (h : zBd ok w b n K) : zBd ok' w b n K :=
 ⟨hk _ h.1, fun k hkn => by
  obtain ⟨a, c, h1, h2⟩ := h.2 k hkn
  exact ⟨a, c, h1, h2.mono (fun k _ h => hk k h) (by decide)⟩⟩
theorem HdG.mono {ok ok' : Nat → Prop} {w : World} (hk : ∀ k, ok k → ok' k) : ∀ {L : List Cl} {xs : List Value}, HdG ok w L xs → HdG ok' w L xs
 | [], xs, h => h
 | c :: r, xs, h => by
  obtain ⟨a0, c0, a1, c1, a2, c2, xr, h1, h2, h3⟩ := h
  exact ⟨a0, c0, a1, c1, a2, c2, xr, h1, ⟨h2.r.mono (fun k _ h => hk k h) (by decide), h2.d.mono (fun k _ h => hk k h) (by decide), h2.v.mono (fun k _ h => hk k h) (by decide)⟩, HdG.mono hk h3⟩
theorem BS0.full {q : BQ} {w : World} (h : BS0 q w) {B1 : Nat} (hB : q.B0 ≤ B1) (hv : zBd (fun b => b < B1 ∧ b ≠ q.bx) w q.bv q.m (fun k => jY (lvD q.l (q.lf k)) (q.X k).d)) : BS { q with B0 := B1 } w := by
 have hk : ∀ k, q.ok k → ({ q with B0 := B1 } : BQ).ok k := fun k h => ⟨zLR h.1 hB, h.2⟩
 exact ⟨h.s.mono (fun k _ h => hk k h) (by decide), h.kids.mono hk, hk _ h.levOk, h.lev, h.leaves.mono (fun k _ h => hk k h) (by decide), h.cols.mono (fun k _ h => hk k h) (by decide), h.hd.mono hk, hv, by obtain ⟨K, h1, h2⟩ := h.ins; exact ⟨K, h1.mono hk, h2⟩⟩
def zFz (q : BQ) (B k : Nat) (K : Nat → List Int) (aa0 : Nat → Option Addr) (w : World) (e : Ending) (w' : World) : Prop :=
 ∃ (b : Bool) (cur : Array Value) (aa : Nat → Option Addr) (cc : Nat → Nat) (K' : Nat → List Int), e = .returned (.bool b) ∧ KI B w' q.bv q.m cur aa cc K' ∧ (∀ i, i ≠ k → aa i = aa0 i) ∧ Chg (fun g => g = q.bv ∨ B ≤ g) w w' ∧
  (b = true → (∀ i, i < q.m → K' i = if i = k then jY (lvD q.l (q.lf k)) (q.X k).d else K i) ∧ (q.X k).r.length = (q.X k).d.length ∧ vN (lvD q.l (q.lf k) : Int) (q.X k).d (q.X k).d.length = (q.X k).v.length) ∧
  ((q.X k).r.length = (q.X k).d.length → vN (lvD q.l (q.lf k) : Int) (q.X k).d (q.X k).d.length = (q.X k).v.length → (∀ v ∈ (q.X k).v, v.s.size ≤ 100) → b = true)
theorem KI.congr16 {B : Nat} {w : World} {bk n : Nat} {cur : Array Value} {aa : Nat → Option Addr} {cc : Nat → Nat} {K K' : Nat → List Int} (h : KI B w bk n cur aa cc K) (hK : ∀ k, k < n → K k = K' k) : KI B w bk n cur aa cc K' :=
 ⟨h.row, fun k hk => by rw [← hK k hk]; exact h.at' k hk, fun k hk => by rw [← hK k hk]; exact h.own k hk, h.lt, h.dis⟩
theorem zGt {D : Int} {d : List Int} {j : Nat} (h : j < d.length) : (jY D d).take (j + 1) = (jY D d).take j ++ [(vN D d j : Int)] := by
 rw [List.take_succ_eq_append_getElem (by rw [zAG]; exact h), zEe]
theorem KI.chg {B : Nat} {w w' : World} {bk n : Nat} {cur : Array Value} {aa : Nat → Option Addr} {cc : Nat → Nat} {K : Nat → List Int} (h : KI B w bk n cur aa cc K) {S : Nat → Prop} (hc : Chg S w w') (hn : ∀ b, b = bk ∨ B ≤ b → b < w.heap.size → ¬ S b) : KI B w' bk n cur aa cc K :=
 ⟨h.row.chg hc (hn bk (.inl rfl) h.row.lt), h.at', fun k hk => (h.own k hk).chg hc (fun g hg => hn g (.inr (h.lt k g hk hg).2.2) (h.lt k g hk hg).1), fun k g hk hg => ⟨zLR (h.lt k g hk hg).1 hc.size, (h.lt k g hk hg).2⟩, h.dis⟩
set_option maxHeartbeats 2000000 in
set_option maxRecDepth 100000 in
theorem zKk (q : BQ) (hsm : q.l.length ≤ 1000) (hmL : q.L.length = q.m) (k : Nat) (hk : k < q.m) (B : Nat) (w : World) (hS : BS0 q w) (hR : Rw w q.bx (q.box false) 74) (cur : Array Value) (aa : Nat → Option Addr) (cc : Nat → Nat) (K : Nat → List Int) (hK : KI B w q.bv q.m cur aa cc K) (h0 : K k = []) (ha0 : aa k = none)
  (hbx : q.bx < B) (hB0 : q.B0 ≤ q.bv) (hbv : q.bv < B) (hne : q.bv ≠ q.bx) (hBw : B ≤ w.heap.size) (hlen : (q.X k).d.length ≤ 1000000) :
  Calls Try.prog 27 #[.pointer (some ⟨q.bx, 0, none⟩), .int .i64 (k : Int)] w (zFz q B k K aa w) := by
 obtain ⟨ii, hii, hz0i, hz1i, hz2i⟩ := info_parts jR
 have hkL : k < q.L.length := by rw [hmL]; exact hk
 have hkm : (k : Int) < (q.m : Int) := by omega
 obtain ⟨cb0, co, hca, hcok, hcc⟩ := hS.cols.pos (by omega)
 obtain ⟨a0, c0, a1, c1, a2, c2, h0', h1', h2', hcl⟩ := hS.hd.get k hkL
 have hc0 := hcc _ _ h0'; have hc1 := hcc _ _ h1'; have hc2 := hcc _ _ h2'
 rw [← zLQ] at hc1 hc2
 rw [← BQ.X_eq hkL] at hc0 hc1 hc2 hcl
 obtain ⟨lb, lo, hla, hlok, hlc⟩ := hS.leaves.pos (by omega)
 obtain ⟨f0, f1, f2, f3⟩ := zBf q.l (zG q.l q.l.length) k hk
 have e2 : (zG q.l q.l.length)[k]'hk = q.lf k := by
  unfold BQ.lf; rw [List.getD_eq_getElem?_getD, List.getElem?_eq_getElem hk]; rfl
 rw [e2] at f2
 have hld := hlc _ _ f2
 rw [← zLQ] at hld
 have y4 : w.cell? ⟨q.bx, 4, none⟩ = some (.slice (some ⟨cb0, co, none⟩) q.m q.cc) := by have := hR.cell 4; rw [this]; simp [BQ.box, hca]
 have y3 : w.cell? ⟨q.bx, 3, none⟩ = some (.slice (some ⟨lb, lo, none⟩) q.m q.lc) := by have := hR.cell 3; rw [this]; simp [BQ.box, hla]
 have hok : ∀ b, q.ok b → ¬ (b = q.bv ∨ B ≤ b) := fun b h h2 => by have := h.1; omega
 have HR := zH hR; have HK := zH hK; have HCL := zH hcl; have HOK := zH hok
 have HC := zH (zLP hld (zLP y3 (zLP hcok hlok)))
 have H0 := zH h0
 generalize hXE : q.X k = X at *
 have HXE := zH hXE
 clear hXE
 generalize hD : (lvD q.l (q.lf k) : Int) = D at *
 clear hS hR hK h0' h1' h2' hcl f0 f1 f2 f3 e2 hcc hlc hld y3 hca hla hcok hlok hok h0
 have hrm := zLS HCL.out.r.le HCL.out.r.max
 have hvm := zLS HCL.out.v.le HCL.out.v.max
 unfold maxLen at hrm hvm
 show Calls _ _ _ _ (zFz q B k K aa w)
 have HQ : Hid (∀ (b : Bool) cur aa' cc (K' : Nat → List Int) (w' : World), KI B w' q.bv q.m cur aa' cc K' → (∀ i, i ≠ k → aa' i = aa i) → Chg (fun g => g = q.bv ∨ B ≤ g) w w' → (b = true → (∀ i, i < q.m → K' i = if i = k then jY D X.d else K i) ∧ X.r.length = X.d.length ∧ vN D X.d X.d.length = X.v.length) →
   (X.r.length = X.d.length → vN D X.d X.d.length = X.v.length → (∀ v ∈ X.v, v.s.size ≤ 100) → b = true) → zFz q B k K aa w (.returned (.bool b)) w') := zH (fun b cur aa' cc K' w' h1 h1' h2 h3 h4 => by
  subst hD
  rw [← HXE.out] at h3 h4
  exact ⟨b, cur, aa', cc, K', rfl, h1, h1', h2, h3, h4⟩)
 have HA0 := zH ha0
 clear ha0
 go_enter Try.func27, Try.ntmps27
 go_upto_region 2 with fail
 refine yE (fun w1 hw1 => ?_)
 have r5 : Rw w1 w.heap.size #[.slice a0 X.r.length c0, .slice a1 X.d.length c1, .slice a2 X.v.length c2] 42 := by rw [hw1]; exact Rw.new w _ _
 have hb1 : Below w.heap.size w w1 := by rw [hw1]; exact ba (b0 w) _
 clear hw1 hc0 hc1 hc2 y4
 have k0 : w1.cell? ⟨w.heap.size, 0, none⟩ = some (.slice a0 X.r.length c0) := r5.cell 0
 have k1 : w1.cell? ⟨w.heap.size, 1, none⟩ = some (.slice a1 X.d.length c1) := r5.cell 1
 have h5l := r5.lt
 have R5 := zH r5; have HB1 := zH hb1
 have HK1 := zH (HK.out.below hb1)
 have HR1 := zH (HR.out.below hb1)
 clear r5 hb1
 by_cases hrd : X.r.length = X.d.length
 rotate_left
 ·have hb : ((X.r.length : Int) != (X.d.length : Int)) = true := by simp; omega
  have HRD := zH hrd
  clear hrd
  go_wp2_with fail
  go_ret
  exact HQ.out false cur aa cc K w1 HK1.out (fun _ _ => rfl) ((chF HB1.out).mono (fun _ _ h => h.elim)) (fun h => by cases h) (fun h => absurd h HRD.out)
 have hb : ((X.r.length : Int) != (X.d.length : Int)) = false := by simp; omega
 have HRD := zH hrd
 clear hrd
 go_wp2_with fail
 clear k0 k1 hb
 go_loopw [6, 26] (fun nv jv wr => ∃ (j : Nat) (cur : Array Value) (aa' : Nat → Option Addr) (cc : Nat → Nat), nv = .int .i64 (vN D X.d j : Int) ∧ jv = .int .i64 (j : Int) ∧ j ≤ X.d.length ∧ Hid (KI B wr q.bv q.m cur aa' cc (fun i => if i = k then (jY D X.d).take j else K i)) ∧ Hid (Chg (fun g => g = q.bv ∨ w1.heap.size ≤ g) w1 wr) ∧ Hid (∀ g, blk (aa' k) g → w1.heap.size ≤ g) ∧ Hid (∀ i, i ≠ k → aa' i = aa i)) (fun _ jv _ => X.d.length - (intOf jv).toNat)
 case atStart =>
  refine ⟨0, cur, aa, cc, by simp [vN], rfl, Nat.zero_le _, zH ?_, zH (Chg.refl _ _), zH (fun g hg => by rw [HA0.out] at hg; obtain ⟨_, _, h⟩ := hg; cases h), zH (fun _ _ => rfl)⟩
  exact HK1.out.congr16 (fun i _ => by by_cases e : i = k; subst e; simp [H0.out]; simp [e])
 case round =>
  obtain ⟨j, cur', aa', cc', rfl, rfl, hj, HKI, HCH, HAK, HAE⟩ := hrel
  have hszr := HCH.out.size
  have hokS : ∀ b, q.ok b → b < w1.heap.size → ¬ (b = q.bv ∨ w1.heap.size ≤ b) := fun b h h1 h2 => by have := h.1; omega
  have hvb := zKr D X.d j
  by_cases hjl : j < X.d.length
  ·have hjl' : (j : Int) < (X.d.length : Int) := by omega
   obtain ⟨db, dof, hda, hdok, hdc⟩ := HCL.out.d.pos (by omega)
   subst hda
   have hdj := hdc j _ (zO _ _ hjl)
   have mD := HCH.out.keep (cb HB1.out hdj) (hokS _ hdok (by have h1 := World.block_lt_of_cell? w ⟨db, dof + j, none⟩ hdj; have h2 : db < w.heap.size := h1; omega))
   have mL := HCH.out.keep (cb HB1.out HC.out.1) (hokS _ HC.out.2.2.2 (by have h1 := World.block_lt_of_cell? w ⟨lb, lo + k * 4 + 2, none⟩ HC.out.1; have h2 : lb < w.heap.size := h1; omega))
   have HVS := zH (zE4 (D := D) hjl)
   have HVT := zH (zGt (D := D) hjl)
   generalize X.d[j] = z at *
   have hrx : Rw wr q.bx (q.box false) 74 := HR1.out.chg HCH.out (fun h => by have := HR.out.lt; rcases h with h | h <;> omega)
   have b3 : wr.cell? ⟨q.bx, 3, none⟩ = some (.slice (some ⟨lb, lo, none⟩) q.m q.lc) := by
    have h1 := hrx.cell 3
    have h2 := HR.out.cell 3
    rw [HC.out.2.1] at h2
    rw [h1, ← h2]
   have b5 : wr.cell? ⟨q.bx, 5, none⟩ = some (.slice (some ⟨q.bv, 0, none⟩) q.m q.m) := by have := hrx.cell 5; rw [this]; simp [BQ.box]
   have htl : ((jY D X.d).take j).length = j := by rw [List.length_take, zAG]; omega
   have hgv : wr.cell? ⟨q.bv, k, none⟩ = some (.slice (aa' k) j (cc' k)) := by
    have h1 := (HKI.out.row.cell k).trans (HKI.out.at' k hk)
    rw [if_pos rfl, htl] at h1
    exact h1
   have HOQ : Hid (Own B wr 3 1 (aa' k) j (cc' k) (zQ ((jY D X.d).take j))) := zH (by
    have h1 := HKI.out.own k hk
    rw [if_pos rfl, htl] at h1
    exact h1)
   have HTL := zH htl
   have HJ := zH (zLP b5 hgv)
   have HBW : Hid (B ≤ wr.heap.size) := zH (by omega)
   clear hdc hdj hrx htl hokS
   go_upto_region 7 with fail
   have HMLX := zH (zLP b3 mL)
   clear mD b3 b5 hgv mL
   generalize vN D X.d j = nv at *
   refine zF (fun w' => w'.cell? ⟨q.bx, 5, none⟩ = some (.slice (some ⟨q.bv, 0, none⟩) q.m q.m) ∧ w'.cell? ⟨q.bv, k, none⟩ = some (.slice (aa' k) j (cc' k))) [16] (by kernel_rfl) ?g56rgS (fun hHeld => ?g56rgR)
   case g56rgS => (try dsimp only); (first | exact HJ.out | exact ⟨cb (ba (b0 _) _) hHeld.1, cb (ba (b0 _) _) hHeld.2⟩ | exact ⟨hc5.keep hHeld.1 (by rintro ⟨_, h, _⟩; omega), hc5.keep hHeld.2 (by rintro ⟨_, h, _⟩; omega)⟩)
   try dsimp only at hHeld
   refine zD [0, 1, 2, 3, 4, 5, 6, 7, 8, 9, 10, 11, 12] 4 (by kernel_rfl) (fun _ _ _ _ _ h => h) (by assumption) ?_
   iterate 13 ((apply YA.take rfl (by rfl); case hy => rintro w ⟨s0, s1⟩; go_simp; try with_reducible rfl); try simp only [pD])
   refine YA.nil ?_
   refine zB [13] (by kernel_rfl) (by simp) ?_
   refine zA.con 13 rfl (fun K hK => ?g56ro1) ?g56rm1
   case g56rm1 => exact zA.nil
   go_simp
   refine hK.out _ _ ?g56rs1 (fun hHeld => ?g56rt1)
   case g56rs1 => (try dsimp only); (first | exact HJ.out | exact ⟨cb (ba (b0 _) _) hHeld.1, cb (ba (b0 _) _) hHeld.2⟩ | exact ⟨hc5.keep hHeld.1 (by rintro ⟨_, h, _⟩; omega), hc5.keep hHeld.2 (by rintro ⟨_, h, _⟩; omega)⟩)
   try dsimp only at hHeld
   clear hK K
   try simp only [pD]
   refine zB [14] (by kernel_rfl) (by simp) ?_
   refine zA.con 14 rfl (fun K hK => ?g56ro2) ?g56rm2
   case g56rm2 => exact zA.nil
   (refine zN (B := B) rfl _ _ _ _ rfl ii (.int .i64 0) 8 Try.underlying22 hii hz0i hz1i hz2i rfl rfl (HOQ.out.drew.alloc _) _ rfl _ _ (yP (e' := 3) Try.underlying22 (cur := #[.int .i64 (nv : Int)]) (t := 3) (by refine Rw.new' ?_; simp) 1 1 (by rfl) (by simp [Value.oneCell'])) (by simp only [maxLen]; omega) (by omega) (by first | omega | (simp; omega) | simp) ?_; intro a5 cap5 w8 ho5 hc5 hn5)
   refine hK.out _ _ ?g56rs2 (fun hHeld => ?g56rt2)
   case g56rs2 => (try dsimp only); (first | exact HJ.out | exact ⟨cb (ba (b0 _) _) hHeld.1, cb (ba (b0 _) _) hHeld.2⟩ | exact ⟨hc5.keep hHeld.1 (by rintro ⟨_, h, _⟩; omega), hc5.keep hHeld.2 (by rintro ⟨_, h, _⟩; omega)⟩)
   try dsimp only at hHeld
   clear hK K
   try simp only [pD]
   refine zD [15] 1 (by kernel_rfl) (fun _ _ _ _ _ h => h) (by assumption) ?_
   iterate 1 ((apply YA.take rfl (by rfl); case hy => rintro w ⟨s0, s1⟩; go_simp; try with_reducible rfl); try simp only [pD])
   refine YA.nil ?_
   refine zB [16] (by kernel_rfl) (by simp) ?_
   refine zA.lst 16 rfl (by kernel_rfl) (fun K hK => ?g56ro3) ?g56rm3
   case g56rm3 => exact zA.nil
   (have q5 : w8.cell? ⟨q.bv, k, none⟩ = some (.slice (aa' k) j (cc' k)) := hHeld.2); (have qrow := ((HKI.out.row.drew.alloc _).chg hc5 (by rintro ⟨_, h, _⟩; omega))); (have qf := qrow.frozen); (have ql := qrow.lt); go_simp
   refine hK.out _ _ ?_
   clear hK K
   try simp only [pD]
   refine zE (by kernel_rfl) ?_
   clear hHeld q5 qrow qf ql
   have hball : Below wr.heap.size wr (wr.drew.alloc (.cells #[.int .i64 (nv : Int)] 3)) := ba (b0 wr).drew _
   have hki := (HKI.out.below hball).push k hk (a' := a5) (c' := cap5) (x := (nv : Int)) hbv (by rw [if_pos rfl, HTL.out, yT]; exact ho5) hc5 hn5
   simp only [if_true, HTL.out] at hki
   have hki2 := hki.congr16 (K' := fun i => if i = k then (jY D X.d).take (j + 1) else K i) (fun i _ => by
    by_cases e : i = k
    ·simp only [if_pos e]; rw [HVT.out]
    ·simp only [if_neg e])
   have HKN := zH hki2
   have hcn := (((chF hball).mono (S' := fun g => g = q.bv ∨ w1.heap.size ≤ g) (fun _ _ h => h.elim)).trans hc5 (fun b _ h => .inr (HAK.out b h.1))).setCell (p := ⟨q.bv, k, none⟩) (.inr (.inl rfl)) (.slice a5 (j + 1) cap5)
   have HAN : Hid (∀ g, blk ((fun i => if i = k then a5 else aa' i) k) g → w1.heap.size ≤ g) := zH (fun g hg => by
    simp only [if_true] at hg
    rcases hn5 g hg with h | h
    ·exact HAK.out g h
    ·have h3 := h; simp at h3; omega)
   have HCN := zH hcn
   have HAEN : Hid (∀ i, i ≠ k → (fun i => if i = k then a5 else aa' i) i = aa i) := zH (fun i hi => by dsimp only; rw [if_neg hi]; exact HAE.out i hi)
   clear ho5 hc5 hn5 hki hki2 hcn hball
   go_upto_region 8 with fail
   refine yE (fun w9 hw9 => ?_)
   rw [← hw9] at HKN HCN
   have n3 := HCN.out.keep HMLX.out.1 (fun h => by have h1 := HR1.out.lt; rcases h with h | h <;> omega)
   have n4 := HCN.out.keep HMLX.out.2 (fun h => by have h0 := HC.out.2.2.2.1; have h1 := World.block_lt_of_cell? w ⟨lb, lo + k * 4 + 2, none⟩ HC.out.1; have h2 : lb < w.heap.size := h1; rcases h with h | h <;> omega)
   have HCF := zH (HCH.out.trans HCN.out (fun _ _ h => h))
   clear hw9
   by_cases hz : z = D
   ·have hzb : (z == D) = true := by simpa using hz
    have hv1 : vN D X.d (j + 1) = nv + 1 := by rw [HVS.out, if_pos hz]
    have HV1 := zH hv1
    clear hz hv1
    go_wp2_with fail
    clear n3 n4 hzb
    go_roundw
    case rel => exact ⟨j + 1, _, _, _, by rw [HV1.out]; go_num, by go_num, by omega, HKN, HCF, HAN, HAEN⟩
    case measure => simp [intOf]; omega
   ·have hzb : (z == D) = false := by simpa using hz
    have hv1 : vN D X.d (j + 1) = nv := by rw [HVS.out, if_neg hz]; rfl
    have HV1 := zH hv1
    clear hz hv1
    go_wp2_with fail
    clear n3 n4 hzb
    go_roundw
    case rel => exact ⟨j + 1, _, _, _, by rw [HV1.out], by go_num, by omega, HKN, HCF, HAN, HAEN⟩
    case measure => simp [intOf]; omega
  ·obtain rfl : j = X.d.length := by omega
   have k2 : wr.cell? ⟨w.heap.size, 2, none⟩ = some (.slice a2 X.v.length c2) := (R5.out.chg HCH.out (fun h => by rcases h with h | h <;> omega)).cell 2
   have HCW : Hid (Chg (fun g => g = q.bv ∨ B ≤ g) w wr) := zH (((chF HB1.out).mono (S' := fun g => g = q.bv ∨ B ≤ g) (fun _ _ h => h.elim)).trans HCH.out (fun b _ h => h.imp id (fun h => by omega)))
   have HKE := zH (HKI.out.congr16 (K' := fun i => if i = k then jY D X.d else K i) (fun i _ => by
    by_cases e : i = k
    ·simp only [if_pos e]; rw [List.take_of_length_le (by rw [zAG]; omega)]
    ·simp only [if_neg e]))
   have HSV : Hid (Sl q.ok wr 2 a2 X.v.length c2 (vcs X.v)) := zH ((HCL.out.v.below HB1.out).go (S := fun g => g = q.bv ∨ w1.heap.size ≤ g) (ok' := q.ok) HCH.out (fun b hb h => ⟨fun h2 => by have := h.1; omega, h⟩) (by decide))
   clear hjl hokS
   by_cases hv : vN D X.d X.d.length = X.v.length
   rotate_left
   ·have hvb2 : ((vN D X.d X.d.length : Int) == (X.v.length : Int)) = false := by simp; omega
    have HV := zH hv
    clear hv
    go_wp2_with fail
    go_ret
    exact HQ.out false _ _ _ _ wr HKE.out HAE.out HCW.out (fun h => by cases h) (fun _ h => absurd h HV.out)
   ·have hvb2 : ((vN D X.d X.d.length : Int) == (X.v.length : Int)) = true := by simp; omega
    have HV := zH hv
    clear hv
    go_wp2_with fail
    refine (zIJ q.ok a2 c2 X.v wr HSV.out).mono ?_
    rintro e w5 ⟨r, rfl, hr, hrs, hb5⟩
    have HRS := zH hrs
    have HK5 := zH (HKE.out.below hb5)
    have HC5 := zH (HCW.out.trans (Chg.ofBelow hb5) (fun b hb h => .inr (by have h' : wr.heap.size ≤ b := h; omega)))
    clear hrs hb5 hvb2 k2
    rcases hr with rfl | hr
    ·go_wp2_with fail
     go_ret
     exact HQ.out true _ _ _ _ w5 HK5.out HAE.out HC5.out (fun _ => ⟨fun _ _ => rfl, HRD.out, HV.out⟩) (fun _ _ _ => rfl)
    ·have hdn : decide (r < 0) = false := decide_eq_false (by omega)
     go_wp2_with fail
     go_ret
     exact HQ.out false _ _ _ _ w5 HK5.out HAE.out HC5.out (fun h => by cases h) (fun _ _ h => by have := HRS.out h; omega)
end Go.Proofs.Ytjbkjfefjhbolaa
