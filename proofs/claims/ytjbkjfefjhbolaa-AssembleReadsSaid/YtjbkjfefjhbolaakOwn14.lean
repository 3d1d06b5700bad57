import Derived.Test.YtjbkjfefjhbolaakFld14S
set_option linter.all false
open List renaming any_eq_true → zLP, eq_nil_of_length_eq_zero → zLQ, mem_range → zLR, getElem?_eq_some_iff → zLS, getElem_cons_succ → zLT, take_of_length_le → zLU, take_succ_cons → zLW, length → zLY
open Nat renaming add_assoc → zLV, le_refl → zLX
set_option maxHeartbeats 40000000
set_option maxRecDepth 100000
namespace Go.Proofs.Ytjbkjfefjhbolaa
open Go.RowKit Go.Shr
section
variable {e : TypeId} {B size : Nat} {a : Option Addr} {n cap : Nat} {xs : List Value} {w : World}
theorem zBn {P : Program} {ops : Array Oper} {rest : List Oper} {o : Oper} {ac : Act} {Q : Exit → Act → World → Prop} (hgd : o.guard = none) (s x : Operand) (t tx : TypeId)
  (ho : o.op = .call { callee := .builtin .append, args := #[s, x], argTypes := #[t, tx] })
  (i : TypeInfo) (z : Value) (bytes : Nat) (ht : P.underlying t = some (.slice e)) (hi : P.info? e = some i) (hz : i.zero = some z) (hsize : i.size = size) (hby : i.bytes = bytes) (hzs : z.cells.size = size)
  (hsv : ac.eval s = .slice a n cap) (h : Own B w e size a n cap xs) (v : Value) (hxv : ac.eval x = v) (m : Nat) (news : List Value) (hs : Src P size tx v m news w) (h63 : n + m ≤ maxLen) (hbytes : (n + m) * bytes ≤ 140737488355328) (hB : B ≤ w.heap.size)
  (hK : ∀ a' cap' w', Own B w' e size a' (n + m) cap' (xs ++ news) → Chg (fun k => blk a k ∧ B ≤ k ∧ 0 < cap) w w' → (∀ k, blk a' k → blk a k ∨ w.heap.size ≤ k) → (n + m = 0 → w' = w ∧ a' = a ∧ cap' = cap) → wpList P ops Q rest (ac.put o.dst (.slice a' (n + m) cap')) w') : wpList P ops Q (o :: rest) ac w := by
 refine wpList_plain hgd fun K hKK => ?_
 obtain ⟨a', cap', w', hr, h2, h3, h4, h5⟩ := Go.Shr.jL (P := P) t tx o.type i z bytes ht hi hz hsize hby hzs h v m news hs h63 hbytes hB
 unfold Oper.wp execOp
 simp only [ho, resolve, invoke, builtin, Sem.run_bind, Sem.run_pure, Result.andThen_ok, List.map_toArray, List.map_cons, List.map_nil, hsv, hxv, hr]
 exact hKK _ _ (hK a' cap' w' h2 h3 h4 h5)
end
structure zBI (w w' : World) (e : TypeId) (size : Nat) (a : Option Addr) (n cap : Nat) (xs : List Value) : Prop where
 own : Own w.heap.size w' e size a n cap xs
 new : ∀ g, blk a g → w.heap.size ≤ g ∧ g < w'.heap.size
theorem zBI.below {w w' w'' : World} {e : TypeId} {size : Nat} {a : Option Addr} {n cap : Nat} {xs : List Value} (h : zBI w w' e size a n cap xs) (hb : Below w'.heap.size w' w'') : zBI w w'' e size a n cap xs :=
 ⟨h.own.below hb, fun g hg => by have := h.new g hg; have := hb.size; omega⟩
structure zKG (w w' : World) (n m : Nat) (xR xD xV : List Value) (a0 : Option Addr) (c0 : Nat) (a1 : Option Addr) (c1 : Nat) (a2 : Option Addr) (c2 : Nat) : Prop where
 r0 : zBI w w' 3 1 a0 n c0 xR
 r1 : zBI w w' 3 1 a1 n c1 xD
 r2 : zBI w w' 44 2 a2 m c2 xV
 d01 : ∀ g, blk a0 g → ¬ blk a1 g
 d02 : ∀ g, blk a0 g → ¬ blk a2 g
 d12 : ∀ g, blk a1 g → ¬ blk a2 g
theorem zBI.of {w v w' w'' : World} {b : Nat} {e : TypeId} {size : Nat} {a : Option Addr} {n cap : Nat} {xs : List Value} (h : zBI v w' e size a n cap xs) (hb : b < v.heap.size) (hw : w.heap.size ≤ v.heap.size) (hc : Chg (fun g => g = b) w' w'') : zBI w w'' e size a n cap xs :=
 ⟨(h.own.mono hw).chg hc (fun g hg e => by have := (h.new g hg).1; omega), fun g hg => by have := h.new g hg; have := hc.size; omega⟩
theorem zER (ok : Nat → Prop) (a : Option Addr) (n cap : Nat) (xs : List Value) (w : World) (h : Sl ok w 1 a n cap xs) (hx : ∀ u ∈ xs, u.oneCell' = true) (hn : n ≤ 1000000) :
  Calls Try.prog 60 #[.slice a n cap] w fun e w' => ∃ a' cap', e = .returned (.slice a' n cap') ∧ zBI w w' 3 1 a' n cap' xs ∧ Below w.heap.size w w' := by
 have hnil := fun (w : World) => Lib.run_eql_slice_nil (P := Try.prog) w 22 3 a n cap 0 0 Try.underlying22
 obtain ⟨i0, hi, hz0, hz1, hz2⟩ := info_parts jR
 rcases a with _ | a
 ·have h0 : n = 0 := by rcases h.row with h0 | ⟨_, _, h1, _⟩; exact h0; cases h1
  subst h0
  have hx0 : xs = [] := zLQ (by simpa using h.len)
  subst hx0
  have H := zH h; clear h hx
  go_enter Try.func60, Try.ntmps60
  go_wp2
  go_ret
  exact ⟨none, 0, rfl, ⟨Own.nil _ _ _ _, fun g ⟨_, _, h⟩ => by cases h⟩, Below.refl _ _⟩
 ·have hs := (h.alloc (.cells #[] 3)).src (P := Try.prog) (tx := 22) Try.underlying22 hx
  have HS := zH hs; clear hs h hx
  go_enter Try.func60, Try.ntmps60
  go_wp2_with (at_builtin; refine zBn (B := w.heap.size) rfl _ _ _ _ rfl i0 (.int .i64 0) 8 Try.underlying22 hi hz0 hz1 hz2 rfl rfl (Own.bare _ _ _ _ _) _ rfl _ _ HS.out (by simp only [maxLen]; omega) (by omega) (by simp) ?_; intro a' cap' w' hown hchg hnew hnone)
  go_ret
  have hb : Below w.heap.size w w' := ((Below.refl _ _).alloc (zLX _) _).trans (hchg.below (by simp) (fun i hi ⟨_, h2⟩ => by omega))
  refine ⟨a', cap', by simp, ⟨by simpa using hown, fun g hg => ?_⟩, hb⟩
  by_cases hn0 : n = 0
  ·obtain ⟨rfl, rfl, rfl⟩ := hnone (by omega)
   obtain ⟨o, s, e⟩ := hg
   cases e
   simp
  ·obtain ⟨g', rfl, h1, h2, _⟩ := hown.pos (by omega)
   obtain ⟨o, s, e⟩ := hg
   cases e
   exact ⟨h1, h2⟩
theorem zIj (ok : Nat → Prop) (a : Option Addr) (n cap : Nat) (xs : List Value) (w : World) (h : Sl ok w 2 a n cap xs) (hx : ∀ u ∈ xs, u.oneCell' = true) (hn : n ≤ 1000000) :
  Calls Try.prog 75 #[.slice a n cap] w fun e w' => ∃ a' cap', e = .returned (.slice a' n cap') ∧ zBI w w' 44 2 a' n cap' xs ∧ Below w.heap.size w w' := by
 have hnil := fun (w : World) => Lib.run_eql_slice_nil (P := Try.prog) w 40 44 a n cap 0 0 Try.underlying40
 obtain ⟨i0, hi, hz0, hz1, hz2⟩ := info_parts zCl
 rcases a with _ | a
 ·have h0 : n = 0 := by rcases h.row with h0 | ⟨_, _, h1, _⟩; exact h0; cases h1
  subst h0
  have hx0 : xs = [] := zLQ (by simpa using h.len)
  subst hx0
  have H := zH h; clear h hx
  go_enter Try.func75, Try.ntmps75
  go_wp2
  go_ret
  exact ⟨none, 0, rfl, ⟨Own.nil _ _ _ _, fun g ⟨_, _, h⟩ => by cases h⟩, Below.refl _ _⟩
 ·have hs := (h.alloc (.cells #[] 44)).src (P := Try.prog) (tx := 40) Try.underlying40 hx
  have HS := zH hs; clear hs h hx
  go_enter Try.func75, Try.ntmps75
  go_wp2_with (at_builtin; refine zBn (B := w.heap.size) rfl _ _ _ _ rfl i0 (.agg #[.int .i64 0, .string ByteArray.empty]) 24 Try.underlying40 hi hz0 hz1 hz2 rfl rfl (Own.bare _ _ _ _ _) _ rfl _ _ HS.out (by simp only [maxLen]; omega) (by omega) (by simp) ?_; intro a' cap' w' hown hchg hnew hnone)
  go_ret
  have hb : Below w.heap.size w w' := ((Below.refl _ _).alloc (zLX _) _).trans (hchg.below (by simp) (fun i hi ⟨_, h2⟩ => by omega))
  refine ⟨a', cap', by simp, ⟨by simpa using hown, fun g hg => ?_⟩, hb⟩
  by_cases hn0 : n = 0
  ·obtain ⟨rfl, rfl, rfl⟩ := hnone (by omega)
   obtain ⟨o, s, e⟩ := hg
   cases e
   simp
  ·obtain ⟨g', rfl, h1, h2, _⟩ := hown.pos (by omega)
   obtain ⟨o, s, e⟩ := hg
   cases e
   exact ⟨h1, h2⟩

theorem zLq (ok : Nat → Prop) (aR aD aV : Option Addr) (n m cR cD cV : Nat) (xR xD xV : List Value) (w : World) (hR : Sl ok w 1 aR n cR xR) (hD : Sl ok w 1 aD n cD xD) (hV : Sl ok w 2 aV m cV xV)
  (oR : ∀ u ∈ xR, u.oneCell' = true) (oD : ∀ u ∈ xD, u.oneCell' = true) (oV : ∀ u ∈ xV, u.oneCell' = true) (hn : n ≤ 1000000) (hm : m ≤ 1000000) :
  Calls Try.prog 66 #[.agg #[.slice aR n cR, .slice aD n cD, .slice aV m cV]] w fun e w' => ∃ a0 c0 a1 c1 a2 c2, e = .returned (.agg #[.slice a0 n c0, .slice a1 n c1, .slice a2 m c2]) ∧ Below w.heap.size w w' ∧ zKG w w' n m xR xD xV a0 c0 a1 c1 a2 c2 := by
 have HR := zH hR; have HD := zH hD; have HV := zH hV; have OR := zH oR; have OD := zH oD; have OV := zH oV
 clear hR hD hV oR oD oV
 go_enter Try.func66, Try.ntmps66
 go_wp2_with fail
 obtain ⟨wA, hwA⟩ : ∃ wA, wA = (w.alloc (.cells #[.slice aR n cR, .slice aD n cD, .slice aV m cV] 42)).alloc (.cells #[.slice none 0 0, .slice none 0 0, .slice none 0 0] 42) := ⟨_, rfl⟩
 have hbA : Below w.heap.size w wA := Go.Shr.Below.ren hwA (ba (ba (b0 w) _) _)
 have r1 := Rw.ren hwA ((Rw.new w #[.slice aR n cR, .slice aD n cD, .slice aV m cV] 42).alloc (.cells #[.slice none 0 0, .slice none 0 0, .slice none 0 0] 42))
 have r2 : Rw wA (w.heap.size + 1) #[.slice none 0 0, .slice none 0 0, .slice none 0 0] 42 := by rw [hwA]; exact Rw.new' (by simp)
 rw [← hwA]
 clear hwA
 have R2 := zH r2
 have HBA := zH hbA
 clear r2 hbA
 go_wp2_with fail
 refine zF (fun w' => Rw w' w.heap.size #[.slice aR n cR, .slice aD n cD, .slice aV m cV] 42) [10] (by kernel_rfl) ?g8rgS (fun hHeld => ?g8rgR)
 case g8rgS => (try dsimp only); (first | exact r1.drew | exact hHeld.below hb1 | exact hHeld.below hb2 | exact hHeld.below hb3)
 try dsimp only at hHeld
 refine zD [0, 1, 3, 4, 6, 7] 5 (by kernel_rfl) (fun _ _ _ _ _ h => h) (by assumption) ?_
 iterate 6 ((apply YA.take rfl (by rfl); case hy => intro w hSw; (have q0 := hSw.cell 0); (have q1 := hSw.cell 1); (have q2 := hSw.cell 2); go_simp; try with_reducible rfl); try simp only [pD])
 refine YA.nil ?_
 refine zB [2] (by kernel_rfl) (by simp) ?_
 refine zA.con 2 rfl (fun K hK => ?g8ro1) ?g8rm1
 case g8rm1 => exact zA.nil
 go_simp; refine (zER ok aR n cR xR _ (HR.out.below (HBA.out.drew)) OR.out hn).mono ?_; rintro e u1 ⟨a0, c0, rfl, n0, hb1⟩; (have HB1 := zH (bt HBA.out.drew hb1)); dsimp only
 refine hK.out _ _ ?g8rs1 (fun hHeld => ?g8rt1)
 case g8rs1 => (try dsimp only); (first | exact r1.drew | exact hHeld.below hb1 | exact hHeld.below hb2 | exact hHeld.below hb3)
 try dsimp only at hHeld
 clear hK K
 try simp only [pD]
 refine zB [5] (by kernel_rfl) (by simp) ?_
 refine zA.con 5 rfl (fun K hK => ?g8ro2) ?g8rm2
 case g8rm2 => exact zA.nil
 go_simp; refine (zER ok aD n cD xD _ (HD.out.below HB1.out) OD.out hn).mono ?_; rintro e u2 ⟨a1, c1, rfl, n1, hb2⟩; (have HB2 := zH (bt HB1.out hb2)); dsimp only
 refine hK.out _ _ ?g8rs2 (fun hHeld => ?g8rt2)
 case g8rs2 => (try dsimp only); (first | exact r1.drew | exact hHeld.below hb1 | exact hHeld.below hb2 | exact hHeld.below hb3)
 try dsimp only at hHeld
 clear hK K
 try simp only [pD]
 refine zB [8] (by kernel_rfl) (by simp) ?_
 refine zA.con 8 rfl (fun K hK => ?g8ro3) ?g8rm3
 case g8rm3 => exact zA.nil
 go_simp; refine (zIj ok aV m cV xV _ (HV.out.below HB2.out) OV.out hm).mono ?_; rintro e u3 ⟨a2, c2, rfl, n2, hb3⟩; (have HB3 := zH (bt HB2.out hb3)); dsimp only
 refine hK.out _ _ ?g8rs3 (fun hHeld => ?g8rt3)
 case g8rs3 => (try dsimp only); (first | exact r1.drew | exact hHeld.below hb1 | exact hHeld.below hb2 | exact hHeld.below hb3)
 try dsimp only at hHeld
 clear hK K
 try simp only [pD]
 refine zD [9] 1 (by kernel_rfl) (fun _ _ _ _ _ h => h) (by assumption) ?_
 iterate 1 ((apply YA.take rfl (by rfl); case hy => intro w hSw; (have q0 := hSw.cell 0); (have q1 := hSw.cell 1); (have q2 := hSw.cell 2); go_simp; try with_reducible rfl); try simp only [pD])
 refine YA.nil ?_
 refine zB [10] (by kernel_rfl) (by simp) ?_
 refine zA.lst 10 rfl (by kernel_rfl) (fun K hK => ?g8ro4) ?g8rm4
 case g8rm4 => exact zA.nil
 (have r2 := R2.out.below (bt (bt (bt (b0 wA).drew hb1) hb2) hb3)); (have p0 := r2.cell 0); (have p1 := r2.cell 1); (have p2 := r2.cell 2); (have pf := r2.frozen); (have pl := r2.lt); go_simp
 refine hK.out _ _ ?_
 clear hK K
 try simp only [pD]
 refine zE (by kernel_rfl) ?_
 clear hHeld p0 p1 p2
 have rZ := ((r2.set 0 (.slice a0 n c0)).set 1 (.slice a1 n c1)).set 2 (.slice a2 m c2)
 have z0 := rZ.cell 0; have z1 := rZ.cell 1; have z2 := rZ.cell 2
 have hgA : w.heap.size + 1 < wA.heap.size := R2.out.lt
 go_wp2_with fail
 refine bodyPost_ret (v := .agg #[.slice a0 n c0, .slice a1 n c1, .slice a2 m c2]) (by simp [results, Try.results66, go_sem, z0, z1, z2]) rfl ?_
 have hch : Chg (fun g => g = w.heap.size + 1) u3 (((u3.setCell ⟨w.heap.size + 1, 0, none⟩ (.slice a0 n c0)).setCell ⟨w.heap.size + 1, 1, none⟩ (.slice a1 n c1)).setCell ⟨w.heap.size + 1, 2, none⟩ (.slice a2 m c2)) := (((Chg.refl (fun g => g = w.heap.size + 1) u3).setCell (p := ⟨w.heap.size + 1, 0, none⟩) (.inr rfl) _).setCell (p := ⟨w.heap.size + 1, 1, none⟩) (.inr rfl) _).setCell (p := ⟨w.heap.size + 1, 2, none⟩) (.inr rfl) _
 have s0 : wA.drew.heap.size = wA.heap.size := rfl
 have s1 := hb1.size; have s2 := hb2.size; have s3 := hb3.size
 refine ⟨a0, c0, a1, c1, a2, c2, rfl, Chg.bt HB3.out hch (fun g hg h => by have h' : g = w.heap.size + 1 := h; omega), ⟨((n0.below hb2).below hb3).of (by omega) (by omega) hch, (n1.below hb3).of (by omega) (by omega) hch, n2.of (by omega) (by omega) hch, fun g h h' => ?_, fun g h h' => ?_, fun g h h' => ?_⟩⟩
 ·have := n0.new g h; have := n1.new g h'; omega
 ·have := n0.new g h; have := n2.new g h'; omega
 ·have := n1.new g h; have := n2.new g h'; omega
section
variable {B : Nat} {w w' : World} {N : Nat} {ty : Nat → TypeId} {sz : Nat → Nat} {aa : Nat → Option Addr} {n cc : Nat → Nat} {X : Nat → List Value}
end

theorem zEg {ok : Nat → Prop} {w : World} {t : Tr} {cs : List Value} (h : TrG ok w t cs) : ∃ a cap xs, cs = [.int .i64 t.n, .string t.s, .slice a t.kids.length cap] ∧ t.s.size ≤ maxLen ∧ Sl ok w 1 a t.kids.length cap xs ∧ yO ok w t.kids xs := by
 obtain ⟨n, s, ks⟩ := t
 simp only [TrG] at h
 obtain ⟨a, m, cap, xs, h1, h2, h3, h4⟩ := h
 have hm : m = ks.length := by have := h3.len; have := h4.len; omega
 subst hm
 exact ⟨a, cap, xs, h1, h2, h3, h4⟩
theorem zFf {ok : Nat → Prop} {w : World} : ∀ {ks : List (List Tr)} {xs : List Value} (_ : yO ok w ks xs) (k : Nat) (hk : k < ks.length),
  ∃ a cap ys, xs[k]? = some (.slice a (ks[k]).length cap) ∧ Sl ok w 3 a (ks[k]).length cap ys ∧ zZ ok w ks[k] ys
 | l :: r, xs, h, 0, _ => by
  simp only [yO] at h
  obtain ⟨a, m, cap, ys, xr, rfl, rfl, h3, h4, _⟩ := h
  exact ⟨a, cap, ys, rfl, h3, h4⟩
 | l :: r, xs, h, k + 1, hk => by
  simp only [yO] at h
  obtain ⟨a, m, cap, ys, xr, rfl, _, _, _, h5⟩ := h
  simpa using zFf h5 k (by simpa using hk)
theorem zIE (p : SP) {sh : Sh} (hS : Sch p.l sh) (hl : p.lfs = zG p.l p.l.length) (hll : p.l.length ≤ 1000) (s : Sh) (hk : s.kind ≠ 0) : zKo p s := by
 intro i t a cap r d deep w G aa hx hn hg h hsh ht hr hd hdp
 obtain ⟨nm, rp, kd, ks⟩ := s
 simp only [Sh.kind] at hk
 simp only [Ix] at hx
 simp only [Sh.size] at hn
 have hi : i < p.l.length := by omega
 obtain ⟨hil, hie⟩ := zLS.1 hx.1
 have hki : (flN p.l i).kind ≠ 0 := by rw [qS hil, hie]; exact hk
 obtain ⟨k0, rs, hv, hk0, hlk⟩ := zFd hS hl hi hki
 obtain ⟨hokl, la, lc, g0, gs⟩ := h.lvs i hi
 dsimp only at g0 gs
 rw [List.length_map] at g0 gs
 have hlv : 0 < (p.lv i).length := by rw [hv]; simp
 obtain ⟨lb, lo, rfl, hlb, hlc⟩ := gs.pos hlv
 have g1 := hlc 0 (.int .i64 (k0 : Int)) (by simp [zQ, hv])
 rw [Nat.add_zero] at g1
 obtain ⟨sb, so, hsa, hsb, hsc⟩ := h.s.pos (by omega)
 have f2 := (yB p.l i hil).2.2.1
 rw [hie] at f2
 dsimp only at f2
 replace f2 := hsc _ _ f2
 rw [← zLV] at f2
 have q0 : w.cell? ⟨p.bx, 0, none⟩ = some (.slice p.sa p.l.length p.sc) := h.row.cell 0
 rw [hsa] at q0
 have q2 : w.cell? ⟨p.bx, 2, none⟩ = some (.slice (some ⟨p.bl, 0, none⟩) p.l.length p.l.length) := h.row.cell 2
 have hi0 : (0 : Int) ≤ (i : Int) := by omega
 have hi1 : (i : Int) < (p.l.length : Int) := by omega
 have hkb : (kd != 0) = true := by simp [hk]
 have hl1 : (0 : Int) < ((p.lv i).length : Int) := by omega
 have HF : Hid (∀ k, k < p.m → upd G k0 (G k0 ++ [⟨r, d, some ⟨t.n, t.s⟩⟩]) k = yH G (fun k => yK (p.lf k) i d deep r (.mk nm rp kd ks) t) k) := zH (fun k hkm => by
  unfold yH
  simp only [yK]
  rw [if_pos hk]
  by_cases hkk : k = k0
  ·subst hkk
   rw [zU, if_pos hlk.symm]
  ·rw [zL _ _ hkk, if_neg (fun he => hkk (zJu hl hkm hk0 (by rw [hlk]; exact he.symm))), List.append_nil])
 have HNC : Hid ((¬ p.ch aa p.bl) ∧ (¬ p.ch aa lb) ∧ ¬ p.ch aa w.heap.size) := zH ⟨h.okch hokl, h.okch hlb, fun hc => by
  have := h.bds
  rcases hc with hc | hc | hc
  ·omega
  ·omega
  ·have := (h.tbs hc).2; omega⟩
 have HQ := zH h
 have hcb : ∀ b o v, w.cell? ⟨b, o, none⟩ = some v → (w.alloc (.cells #[.int .i64 t.n, .string t.s, .slice a t.kids.length cap] 57)).cell? ⟨b, o, none⟩ = some v := fun b o v hc => cb (ba (b0 w) _) hc
 replace f2 := hcb _ _ _ f2; replace q0 := hcb _ _ _ q0; replace q2 := hcb _ _ _ q2; replace g0 := hcb _ _ _ g0; replace g1 := hcb _ _ _ g1
 clear h hx hie hsc hlc gs hsh ht hg hcb
 go_enter Try.func65, Try.ntmps65
 go_upto_region 1 with fail
 refine zAC (fun w1 hw1 => ?_)
 have hb1 : Below w.heap.size w w1 := by rw [hw1]; exact ba (b0 w) _
 have r1 : Rw w1 w.heap.size #[.int .i64 t.n, .string t.s, .slice a t.kids.length cap] 57 := by rw [hw1]; exact Rw.new w _ _
 rw [← hw1] at f2 q0 q2 g0 g1
 clear hw1
 have HG := zH (And.intro q2 (And.intro g0 g1))
 have HR1 := zH r1; have HB1 := zH hb1
 clear r1 hb1
 go_wp2_with fail
 refine zF (fun w' => (w'.cell? ⟨p.bx, 2, none⟩ = some (.slice (some ⟨p.bl, 0, none⟩) p.l.length p.l.length) ∧ w'.cell? ⟨p.bl, i, none⟩ = some (.slice (some ⟨lb, lo, none⟩) (p.lv i).length lc) ∧ w'.cell? ⟨lb, lo, none⟩ = some (.int .i64 (k0 : Int))) ∧ w'.cell? ⟨w.heap.size, 0, none⟩ = some (.int .i64 t.n) ∧ w'.cell? ⟨w.heap.size, 1, none⟩ = some (.string t.s)) [] (by kernel_rfl) ?g10rgS (fun hHeld => ?g10rgR)
 case g10rgS => (try dsimp only); (first | exact ⟨HG.out, HR1.out.cell 0, HR1.out.cell 1⟩ | exact ⟨⟨cb hb17 hHeld.1.1, cb hb17 hHeld.1.2.1, cb hb17 hHeld.1.2.2⟩, cb hb17 hHeld.2.1, cb hb17 hHeld.2.2⟩ | exact ⟨⟨hs18.row.cell 2, ht18.1.keep hHeld.1.2.1 HNC.out.1, ht18.1.keep hHeld.1.2.2 HNC.out.2.1⟩, ht18.1.keep hHeld.2.1 HNC.out.2.2, ht18.1.keep hHeld.2.2 HNC.out.2.2⟩)
 try dsimp only at hHeld
 refine zD [0, 1, 2, 3, 4, 5, 6, 7, 8, 9, 10, 11, 12, 13, 14, 15, 16] 2 (by kernel_rfl) (fun _ _ _ _ _ h => h) (by assumption) ?_
 iterate 17 ((apply YA.take rfl (by rfl); case hy => rintro w ⟨⟨s1, s2, s3⟩, s4, s5⟩; go_simp; try with_reducible rfl); try simp only [pD])
 refine YA.nil ?_
 refine zB [17] (by kernel_rfl) (by simp) ?_
 refine zA.con 17 rfl (fun K hK => ?g10ro1) ?g10rm1
 case g10rm1 => exact zA.nil
 go_simp; refine xN (fun W17 hW17 => ?_); (have hb17 : Below w1.drew.heap.size w1.drew W17 := by rw [hW17]; exact ba (b0 w1.drew) _); (have rv17 : Rw W17 w1.drew.heap.size #[.int .i64 t.n, .string t.s] 44 := by rw [hW17]; exact Rw.new w1.drew _ _); clear hW17
 refine hK.out _ _ ?g10rs1 (fun hHeld => ?g10rt1)
 case g10rs1 => (try dsimp only); (first | exact ⟨HG.out, HR1.out.cell 0, HR1.out.cell 1⟩ | exact ⟨⟨cb hb17 hHeld.1.1, cb hb17 hHeld.1.2.1, cb hb17 hHeld.1.2.2⟩, cb hb17 hHeld.2.1, cb hb17 hHeld.2.2⟩ | exact ⟨⟨hs18.row.cell 2, ht18.1.keep hHeld.1.2.1 HNC.out.1, ht18.1.keep hHeld.1.2.2 HNC.out.2.1⟩, ht18.1.keep hHeld.2.1 HNC.out.2.2, ht18.1.keep hHeld.2.2 HNC.out.2.2⟩)
 try dsimp only at hHeld
 clear hK K
 try simp only [pD]
 refine zB [18] (by kernel_rfl) (by simp) ?_
 refine zA.con 18 rfl (fun K hK => ?g10ro2) ?g10rm2
 case g10rm2 => exact zA.nil
 go_simp; refine (zIm p G aa k0 hk0 r d ⟨t.n, t.s⟩ w1.drew W17 ((HQ.out.below HB1.out).below (b0 w1).drew) hb17 rv17).mono ?_; rintro e W18 ⟨rfl, aa', hs18, ht18⟩; dsimp only
 refine hK.out _ _ ?g10rs2 (fun hHeld => ?g10rt2)
 case g10rs2 => (try dsimp only); (first | exact ⟨HG.out, HR1.out.cell 0, HR1.out.cell 1⟩ | exact ⟨⟨cb hb17 hHeld.1.1, cb hb17 hHeld.1.2.1, cb hb17 hHeld.1.2.2⟩, cb hb17 hHeld.2.1, cb hb17 hHeld.2.2⟩ | exact ⟨⟨hs18.row.cell 2, ht18.1.keep hHeld.1.2.1 HNC.out.1, ht18.1.keep hHeld.1.2.2 HNC.out.2.1⟩, ht18.1.keep hHeld.2.1 HNC.out.2.2, ht18.1.keep hHeld.2.2 HNC.out.2.2⟩)
 try dsimp only at hHeld
 clear hK K
 try simp only [pD]
 refine zE (by kernel_rfl) ?_
 have hst := (Stp.below (p := p) (aa := aa) HB1.out).trans ((Stp.below (w := w1) (w' := W17) (show Below w1.heap.size w1 W17 from bt (b0 w1).drew hb17)).trans ht18)
 clear hHeld
 go_wp2_with fail
 refine bodyPost_end (v := .tuple #[]) (by simp [results, Try.results65, go_sem]) rfl ?_
 exact ⟨rfl, aa', hs18.congr HF.out, hst⟩
theorem zK5 (p : SP) (hl : p.lfs = zG p.l p.l.length) (hll : p.l.length ≤ 1000) (s : Sh) (hV : zKo p s) : zKL p s := by
 intro i x a cap ys r d deep w G aa hx hn hg h hsh hx50 hsl hrw hr hd hdp
 by_cases h0 : x = []
 ·subst h0
  exact zJb p hl hll s i a cap r d deep w G aa hx hn h
 ·exact zJa p hll s hV i x h0 a cap ys r d deep w G aa hx hn hg h hsh hx50 hsl hrw hr hd hdp
theorem zAv {l : List Fl} {K : Int → List Int} : ∀ (ks : List Sh) (o j : Nat) (h : j < ks.length), IxL l K o ks → (yX o ks)[j]? = some ((o + zC (ks.take j) : Nat) : Int) ∧ Ix l K (o + zC (ks.take j)) ks[j] ∧ zC (ks.take j) + ks[j].size ≤ zC ks
 | s :: r, o, 0, _, h => by simp only [IxL] at h; simpa [yX, zC] using h.1
 | s :: r, o, j + 1, hj, h => by
  simp only [IxL] at h
  have ih := zAv r (o + s.size) j (by simpa using hj) h.2
  simp only [yX, zLW, zC, List.getElem?_cons_succ, zLT, ← zLV]
  exact ⟨ih.1, ih.2.1, by have := ih.2.2; omega⟩
theorem zJN (p : SP) (hll : p.l.length ≤ 1000) (nm : ByteArray) (rp : Int) (ks : List Sh) (hkl : ks.length ≤ 1000) (IH : ∀ s ∈ ks, zKL p s) : zKo p (.mk nm rp 0 ks) := by
 intro i t a cap r d deep w G aa hx hn hg h hsh ht hr hd hdp
 simp only [shT] at hsh
 have hsh := hsh (by trivial)
 simp only [zR] at hg
 simp only [Ix] at hx
 simp only [Sh.size] at hn hd hdp
 have hi : i < p.l.length := by omega
 obtain ⟨hil, hie⟩ := zLS.1 hx.1
 have hKO : zK (par p.l) (i : Int) = yX (i + 1) ks := hx.2.1
 obtain ⟨hokk, ka, kc, g0, gs⟩ := h.kids i hi
 dsimp only at g0 gs
 rw [hKO, jU] at g0 gs
 obtain ⟨sb, so, hsa, hsb, hsc⟩ := h.s.pos (by omega)
 have f2 := (yB p.l i hil).2.2.1
 rw [hie] at f2
 dsimp only at f2
 replace f2 := hsc _ _ f2
 rw [← zLV] at f2
 have q0 : w.cell? ⟨p.bx, 0, none⟩ = some (.slice p.sa p.l.length p.sc) := h.row.cell 0
 rw [hsa] at q0
 have q1 : w.cell? ⟨p.bx, 1, none⟩ = some (.slice (some ⟨p.bk, 0, none⟩) p.l.length p.l.length) := h.row.cell 1
 have hi0 : (0 : Int) ≤ (i : Int) := by omega
 have hi1 : (i : Int) < (p.l.length : Int) := by omega
 have hkt := zE9 hsh
 have HKL := zH hkt
 have hkl2 : t.kids.length ≤ 1000 := by rw [hkt]; exact hkl
 obtain ⟨ta, tc, txs, hcs, hts, htsl, htk⟩ := zEg ht
 simp at hcs
 obtain ⟨rfl, rfl⟩ := hcs
 have HNB : Hid (¬ p.ch aa w.heap.size) := zH (fun hc => by
  have := h.bds
  rcases hc with hc | hc | hc
  ·omega
  ·omega
  ·have := (h.tbs hc).2; omega)
 have HQ := zH h; have HGS := zH gs; have HIX := zH hx.2.2; have HGL := zH hg.2.2.2.2.2.2; have HSH := zH hsh; have HTS := zH htsl; have HTK := zH htk; have HIH := zH IH
 have HE : Hid (∀ lf, yK lf i d deep r (.mk nm rp 0 ks) t = qB lf (i + 1) d deep r ks t.kids) := zH (fun lf => by simp only [yK]; rw [if_neg (by decide)])
 have hcb : ∀ b o v, w.cell? ⟨b, o, none⟩ = some v → (w.alloc (.cells #[.int .i64 t.n, .string t.s, .slice a t.kids.length cap] 57)).cell? ⟨b, o, none⟩ = some v := fun b o v hc => cb (ba (b0 w) _) hc
 replace f2 := hcb _ _ _ f2; replace q0 := hcb _ _ _ q0; replace q1 := hcb _ _ _ q1; replace g0 := hcb _ _ _ g0
 clear h hx hie hsc gs hsh ht hg hcb hKO htsl htk IH hkt
 go_enter Try.func65, Try.ntmps65
 go_upto_region 1 with fail
 refine zAC (fun w1 hw1 => ?_)
 have hb1 : Below w.heap.size w w1 := by rw [hw1]; exact ba (b0 w) _
 have r1 : Rw w1 w.heap.size #[.int .i64 t.n, .string t.s, .slice a t.kids.length cap] 57 := by rw [hw1]; exact Rw.new w _ _
 rw [← hw1] at f2 q0 q1 g0
 clear hw1
 have hz1 := r1.lt
 have HR1 := zH r1; have HB1 := zH hb1
 have HQ1 := zH (HQ.out.below hb1)
 have HGS1 := zH (HGS.out.go (ok' := p.ok) (chF hb1) (fun b _ hb => ⟨fun h => h, hb⟩) (by decide))
 have HTS1 := zH (HTS.out.go (ok' := fun b => b < p.B0) (chF hb1) (fun b _ hb => ⟨fun h => h, hb⟩) (by decide))
 have HTK1 := zH (HTK.out.go (ok' := fun b => b < p.B0) (chF hb1) (fun b _ hb => ⟨fun h => h, hb⟩))
 clear r1 hb1 HGS HTS HTK
 go_wp2_with fail
 clear f2 q0 q1 g0
 go_loopw [50] (fun jv wr => ∃ (done todo : List Sh) (aa1 : Nat → Option Addr), jv = .int .i64 (done.length : Int) ∧ Hid (ks = done ++ todo) ∧ Hid (Str p wr (yH G (fun k => qB (p.lf k) (i + 1) d deep r done (t.kids.take done.length))) aa1) ∧ Hid (Stp p aa w1 aa1 wr) ∧ Hid (Rw wr w.heap.size #[.int .i64 t.n, .string t.s, .slice a t.kids.length cap] 57)) (fun jv _ => ks.length - (intOf jv).toNat)
 case atStart => exact ⟨[], ks, aa, rfl, zH rfl, zH (HQ1.out.congr (fun k _ => by simp [yH, qB])), zH (Stp.below (b0 w1)), HR1⟩
 case round =>
  obtain ⟨done, todo, aa1, rfl, HD, HS, HT, HR⟩ := hrel
  have hdl : done.length ≤ ks.length := by have := congrArg zLY HD.out; simp at this; omega
  by_cases hlt : done.length < ks.length
  ·obtain ⟨s, q, hq⟩ : ∃ s q, todo = s :: q := by
    cases todo with
    | nil => have := congrArg zLY HD.out; simp at this; omega
    | cons s q => exact ⟨s, q, rfl⟩
   have htd : ks.take done.length = done := by rw [HD.out]; simp
   have hsk : ks[done.length] = s := by simp [HD.out, hq]
   obtain ⟨ho, hixs, hos⟩ := zAv ks (i + 1) done.length hlt HIX.out
   rw [htd] at ho hixs hos
   rw [hsk] at hixs hos
   obtain ⟨o, hoo⟩ : ∃ o, o = i + 1 + zC done := ⟨_, rfl⟩
   rw [← hoo] at ho hixs
   have hon : o + s.size ≤ p.l.length := by omega
   have hss : 1 + s.size ≤ 1 + zC ks := by omega
   have hdk : done.length < t.kids.length := by rw [HKL.out]; exact hlt
   have hsm : s ∈ ks := by rw [HD.out, hq]; simp
   have hsg := wM HGL.out hsm
   have hok := zFa HSH.out done.length hlt hdk
   rw [hsk] at hok
   have HSN : Hid (∀ lf, qB lf (i + 1) d deep r (done ++ [s]) (t.kids.take (done.length + 1)) = qB lf (i + 1) d deep r done (t.kids.take done.length) ++ jO lf o d deep r s t.kids[done.length]) := zH (fun lf => by
    rw [List.take_succ_eq_append_getElem hdk, zCA _ _ _ _ _ (by rw [List.length_take]; omega), ← hoo])
   have HV := zH (HIH.out s hsm)
   have HNX : Hid (ks = (done ++ [s]) ++ q) := zH (by rw [HD.out, hq]; simp)
   have HLS : Hid ((done ++ [s]).length = done.length + 1) := zH (by simp)
   have HIXS := zH hixs; have HSG := zH hsg; have HOKX := zH hok.2
   have hx50 := hok.1
   have hgs := HGS1.out.go (ok' := p.ok) HT.out.1 (fun b _ hb => ⟨HQ1.out.okch hb, hb⟩) (by decide)
   obtain ⟨kb, ko, rfl, hkb, hkc⟩ := hgs.pos (by omega)
   have hio : (zQ (yX (i + 1) ks))[done.length]? = some (.int .i64 (o : Int)) := by simp only [zQ, List.getElem?_map, ho]; rfl
   have c0 := hkc _ _ hio
   have hts := HTS1.out.go (ok' := fun b => b < p.B0) HT.out.1 (fun b _ hb => ⟨HQ1.out.low hb, hb⟩) (by decide)
   have htk := HTK1.out.go (ok' := fun b => b < p.B0) HT.out.1 (fun b _ hb => ⟨HQ1.out.low hb, hb⟩)
   obtain ⟨tb, toff, rfl, htb, htc⟩ := hts.pos (by omega)
   obtain ⟨xa, xcap, xys, hxg, hxs, hxr⟩ := zFf htk done.length hdk
   have c1 := htc _ _ hxg
   have z2 : wr.cell? ⟨w.heap.size, 2, none⟩ = some (.slice (some ⟨tb, toff, none⟩) t.kids.length cap) := HR.out.cell 2
   have HXS := zH hxs; have HXR := zH hxr
   have hdi : (done.length : Int) < (t.kids.length : Int) := by omega
   generalize t.kids[done.length] = x at *
   clear hq htd hsk ho hixs hos hsm hsg hok hgs hkc hio hts htk htc hxg hxs hxr HD hoo
   go_wp2_with fail
   refine (HV.out o x xa xcap xys r d deep wr _ aa1 HIXS.out hon HSG.out HS.out HOKX.out hx50 HXS.out HXR.out hr (by omega) (by omega)).mono ?_
   rintro e w2 ⟨rfl, aa2, hs2, ht2⟩
   have HS2 := zH (hs2.congr (G' := yH G (fun k => qB (p.lf k) (i + 1) d deep r (done ++ [s]) (t.kids.take (done ++ [s]).length))) (fun k _ => by
    unfold yH
    dsimp only
    rw [HLS.out, HSN.out, List.append_assoc]))
   have HT2 := zH (HT.out.trans ht2)
   have HR2 := zH (HR.out.chg ht2.1 (fun hc => by
    have hbd := HQ.out.bds
    rcases hc with hc | hc | hc
    ·omega
    ·omega
    ·rcases HT.out.2 _ hc with h1 | h1
     ·exact HNB.out (.inr (.inr h1))
     ·omega))
   clear hs2 ht2 c0 c1 z2
   go_wp2_with fail
   go_roundw
   case rel => exact ⟨done ++ [s], q, aa2, by rw [HLS.out]; go_num, HNX, HS2, HT2, HR2⟩
   case measure => simp [intOf]; omega
  ·obtain rfl : todo = [] := by
    cases todo with
    | nil => rfl
    | cons s q => have := congrArg zLY HD.out; simp at this; omega
   have hd' : ks = done := by rw [HD.out]; simp
   subst hd'
   clear hlt
   go_wp2_with fail
   refine bodyPost_end (v := .tuple #[]) (by simp [results, Try.results65, go_sem]) rfl ?_
   refine ⟨rfl, aa1, HS.out.congr (fun k _ => ?_), (Stp.below HB1.out).trans HT.out⟩
   unfold yH
   dsimp only
   rw [HE.out, zLU (by rw [HKL.out]; exact zLX _)]
theorem zFQ (p : SP) {sh : Sh} (hS : Sch p.l sh) (hl : p.lfs = zG p.l p.l.length) (hll : p.l.length ≤ 1000) : ∀ (N : Nat) (s : Sh), s.size ≤ N → N ≤ 1000 → zKo p s
 | 0, .mk _ _ _ _, h, _ => by simp [Sh.size] at h
 | N + 1, .mk nm rp kd ks, h, hN => by
  by_cases hk : kd = 0
  ·subst hk
   simp only [Sh.size] at h
   have hkl := qP ks
   refine zJN p hll nm rp ks (by omega) (fun s hs => zK5 p hl hll s (zFQ p hS hl hll N s ?_ (by omega)))
   have : ∀ (q : List Sh), s ∈ q → s.size ≤ zC q := by
    intro q
    induction q with
    | nil => intro h; cases h
    | cons x q ih =>
     intro h
     rcases List.mem_cons.1 h with rfl | h
     ·simp [zC]
     ·have := ih h; simp only [zC]; omega
   have := this ks hs
   omega
  ·exact zIE p hS hl hll _ hk
section
variable {B : Nat} {w w' : World} {N : Nat} {ty : Nat → TypeId} {sz : Nat → Nat} {aa aa' : Nat → Option Addr} {n cc cc' : Nat → Nat} {X : Nat → List Value} {P : Nat → Prop}
theorem OW.fresh (h : OW B w N ty sz aa n cc X) (hB : B ≤ w.heap.size) (hb : Below w.heap.size w w') (h1 : ∀ j, j < N → ¬ P j → aa' j = aa j ∧ cc' j = cc j)
  (h2 : ∀ j, j < N → P j → zBI w w' (ty j) (sz j) (aa' j) (n j) (cc' j) (X j)) (h3 : ∀ i j g, i < N → j < N → P i → P j → i ≠ j → blk (aa' i) g → ¬ blk (aa' j) g) : OW B w' N ty sz aa' n cc' X := by
 have hb' := h.below hb
 refine ⟨fun i hi => ?_, fun i g hi hg => ?_, fun i k g hi hk hik hg hg' => ?_⟩
 ·by_cases hP : P i
  ·exact (h2 i hi hP).own.mono hB
  ·rw [(h1 i hi hP).1, (h1 i hi hP).2]; exact hb'.own i hi
 ·by_cases hP : P i
  ·have := (h2 i hi hP).new g hg; omega
  ·rw [(h1 i hi hP).1] at hg; exact hb'.lt i g hi hg
 ·by_cases hP : P i
  ·by_cases hQ : P k
   ·exact h3 i k g hi hk hP hQ hik hg hg'
   ·rw [(h1 k hk hQ).1] at hg'
    have := (h2 i hi hP).new g hg; have := (h.lt k g hk hg').1; omega
  ·rw [(h1 i hi hP).1] at hg
   by_cases hQ : P k
   ·have := (h2 k hk hQ).new g hg'; have := (h.lt i g hi hg).1; omega
   ·rw [(h1 k hk hQ).1] at hg'
    exact h.dis i k g hi hk hik hg hg'
end
theorem zG3 {k j : Nat} (h : j / 3 = k) : j = k * 3 ∨ j = k * 3 + 1 ∨ j = k * 3 + 2 := by omega
theorem CT.renew {B : Nat} {w w' : World} {bc m : Nat} {C : Nat → List Cel} {cur : Array Value} {aa : Nat → Option Addr} {cc : Nat → Nat} {k : Nat} {a0 a1 a2 : Option Addr} {c0 c1 c2 : Nat} (h : CT B w bc m C cur aa cc) (hk : k < m) (hB : B ≤ w.heap.size) (hb : Below w.heap.size w w')
  (t : zKG w w' (C k).length (zV (C k)).length (zB3 (C k)) (zBO (C k)) (vcs (zV (C k))) a0 c0 a1 c1 a2 c2) :
  CT B (((w'.setCell ⟨bc, k * 3, none⟩ (.slice a0 (C k).length c0)).setCell ⟨bc, k * 3 + 1, none⟩ (.slice a1 (C k).length c1)).setCell ⟨bc, k * 3 + 2, none⟩ (.slice a2 (zV (C k)).length c2)) bc m C
   (((cur.setIfInBounds (k * 3) (.slice a0 (C k).length c0)).setIfInBounds (k * 3 + 1) (.slice a1 (C k).length c1)).setIfInBounds (k * 3 + 2) (.slice a2 (zV (C k)).length c2))
   (upd (upd (upd aa (k * 3) a0) (k * 3 + 1) a1) (k * 3 + 2) a2) (upd (upd (upd cc (k * 3) c0) (k * 3 + 1) c1) (k * 3 + 2) c2) := by
 have hr := h.row.below hb
 have hh := ((h.hds.set (show k * 3 < m * 3 by omega) a0 (C k).length c0).set (show k * 3 + 1 < m * 3 by omega) a1 (C k).length c1).set (show k * 3 + 2 < m * 3 by omega) a2 (zV (C k)).length c2
 have hnu : ∀ j, upd (upd (upd (nC C) (k * 3) (C k).length) (k * 3 + 1) (C k).length) (k * 3 + 2) (zV (C k)).length j = nC C j := fun j => by
  rw [zD1]
  unfold nC
  by_cases e : j / 3 = k
  ·rw [e, zU]
  ·rw [zL _ _ e]
 have ua := zC6 aa k a0 a1 a2
 have uc := zC6 cc k c0 c1 c2
 have how : OW B w' (m * 3) tyC szC (upd (upd (upd aa (k * 3) a0) (k * 3 + 1) a1) (k * 3 + 2) a2) (nC C) (upd (upd (upd cc (k * 3) c0) (k * 3 + 1) c1) (k * 3 + 2) c2) (xC C) := by
  refine OW.fresh h.ow (P := fun j => j / 3 = k) hB hb (fun j _ hP => ⟨zC5 _ _ _ _ hP, zC5 _ _ _ _ hP⟩) (fun j _ hP => ?_) (fun i j g _ _ hi hj hij hg hg' => ?_)
  ·rcases zG3 hP with rfl | rfl | rfl
   ·rw [ua.1, uc.1, (ty0 k).1, (ty0 k).2, (n0 C k).1, (n0 C k).2]; exact t.r0
   ·rw [ua.2.1, uc.2.1, (ty1 k).1, (ty1 k).2, (n1 C k).1, (n1 C k).2]; exact t.r1
   ·rw [ua.2.2, uc.2.2, (ty2 k).1, (ty2 k).2, (n2 C k).1, (n2 C k).2]; exact t.r2
  ·rcases zG3 hi with rfl | rfl | rfl <;> rcases zG3 hj with rfl | rfl | rfl
   ·exact absurd rfl hij
   ·rw [ua.1] at hg; rw [ua.2.1] at hg'; exact t.d01 g hg hg'
   ·rw [ua.1] at hg; rw [ua.2.2] at hg'; exact t.d02 g hg hg'
   ·rw [ua.2.1] at hg; rw [ua.1] at hg'; exact t.d01 g hg' hg
   ·exact absurd rfl hij
   ·rw [ua.2.1] at hg; rw [ua.2.2] at hg'; exact t.d12 g hg hg'
   ·rw [ua.2.2] at hg; rw [ua.1] at hg'; exact t.d02 g hg' hg
   ·rw [ua.2.2] at hg; rw [ua.2.1] at hg'; exact t.d12 g hg' hg
   ·exact absurd rfl hij
 have hlt := h.lt
 have hch : Chg (fun b => b = bc) w' (((w'.setCell ⟨bc, k * 3, none⟩ (.slice a0 (C k).length c0)).setCell ⟨bc, k * 3 + 1, none⟩ (.slice a1 (C k).length c1)).setCell ⟨bc, k * 3 + 2, none⟩ (.slice a2 (zV (C k)).length c2)) := (((Chg.refl (fun b => b = bc) w').setCell (p := ⟨bc, k * 3, none⟩) (.inr rfl) _).setCell (p := ⟨bc, k * 3 + 1, none⟩) (.inr rfl) _).setCell (p := ⟨bc, k * 3 + 2, none⟩) (.inr rfl) _
 exact ⟨((hr.set _ _).set _ _).set _ _, by simpa using h.size, hh.congr (fun _ _ => rfl) (fun j _ => hnu j) (fun _ _ => rfl), how.chg hch (fun g h1 _ h2 => by have h3 : g = bc := h2; omega), h.lt⟩
theorem zIS (lfs : List Nat) (sh : Sh) (rows : List Tr) : mny lfs.length (fun k => zS (lfs.getD k 0) sh rows) = zBk lfs sh rows := by
 unfold mny zBk
 rw [Bool.eq_iff_iff, zLP, zLP]
 constructor
 ·rintro ⟨k, h1, h2⟩
  have hk := zLR.1 h1
  refine ⟨lfs[k], List.getElem_mem hk, ?_⟩
  simpa [List.getD, hk] using h2
 ·rintro ⟨x, h1, h2⟩
  obtain ⟨k, hk, rfl⟩ := List.getElem_of_mem h1
  exact ⟨k, zLR.2 hk, by simpa [List.getD, hk] using h2⟩
theorem zKg {m : Nat} {G : Nat → List Cel} (h : mny m G = false) (k : Nat) (hk : k < m) : xY G k = G k := by
 unfold xY
 refine zLU ?_
 by_cases h2 : 4000 < (G k).length
 ·have : mny m G = true := zLP.2 ⟨k, zLR.2 hk, decide_eq_true h2⟩
  rw [h] at this; cases this
 ·omega
theorem zKV {m : Nat} {G : Nat → List Cel} (h : mny m G = false) (k : Nat) (hk : k < m) : (G k).length ≤ 4000 := by
 by_cases h2 : 4000 < (G k).length
 ·have : mny m G = true := zLP.2 ⟨k, zLR.2 hk, decide_eq_true h2⟩
  rw [h] at this; cases this
 ·omega
theorem zEP {es : List Int} {i : Nat} (hi : i < es.length) (h : ∀ e ∈ es.take i, e = 0) (hn : es[i] ≠ 0) : zAd es = es[i] := by
 induction es generalizing i with
 | nil => simp at hi
 | cons e r ih =>
  cases i with
  | zero => simp only [List.getElem_cons_zero] at hn ⊢; simp [zAd, hn]
  | succ i =>
   simp only [zLT] at hn ⊢
   have h0 : e = 0 := h e (by simp)
   simp only [zAd, h0, if_true]
   exact ih (by simpa using hi) (fun x hx => h x (by rw [zLW]; exact List.mem_cons_of_mem _ hx)) hn
def zKM (l : List Fl) (sh : Sh) (rows : List Tr) (w : World) (e : Ending) (w' : World) : Prop :=
 Below w.heap.size w w' ∧ (yM l sh rows ≠ 0 ∧ e = .returned (.tuple #[.slice none 0 0, .int .i64 (yM l sh rows)]) ∨
  yM l sh rows = 0 ∧ ∃ (B bc : Nat) (cur : Array Value) (aa : Nat → Option Addr) (cc : Nat → Nat), e = .returned (.tuple #[.slice (some ⟨bc, 0, none⟩) (zG l l.length).length (zG l l.length).length, .int .i64 0]) ∧ w.heap.size ≤ bc ∧
   CT B w' bc (zG l l.length).length (fun k => zS ((zG l l.length).getD k 0) sh rows) cur aa cc)
end Go.Proofs.Ytjbkjfefjhbolaa
