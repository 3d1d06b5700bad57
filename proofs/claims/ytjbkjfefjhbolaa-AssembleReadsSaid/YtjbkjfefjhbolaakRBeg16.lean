import Derived.Test.YtjbkjfefjhbolaakRVal16
import Derived.Test.YtjbkjfefjhbolaakRBeg14
set_option linter.all false
open List renaming take_of_length_le → zLP
open Nat renaming lt_of_lt_of_le → zLQ, le_refl → zLR, succ_pos → zLS
namespace Go.Proofs.Ytjbkjfefjhbolaa
open Go.RowKit Go.Shr
structure TBg (l : List Fl) (m : Nat) (w W : World) (bA bV : Option Nat) (g : Option (Nat × Nat)) : Prop where
  hb : Below w.heap.size w W
  rA : ∀ b, bA = some b → Rw W b (zBj m fun _ => 0) 3 ∧ w.heap.size ≤ b
  rV : ∀ b, bV = some b → Rw W b (zBj m fun _ => 0) 3 ∧ w.heap.size ≤ b
  ol : ∀ b c, g = some (b, c) → Own w.heap.size W 3 1 (some ⟨b, 0, none⟩) l.length c (zQ (par l)) ∧ w.heap.size ≤ b ∧ b < W.heap.size
  av : ∀ x y, bA = some x → bV = some y → x ≠ y
  ag : ∀ x y c, bA = some x → g = some (y, c) → x ≠ y
  vg : ∀ x y c, bV = some x → g = some (y, c) → x ≠ y
structure RBg (l : List Fl) (m : Nat) (sa ca : Option Addr) (sc cc : Nat) (bx bA bV gP lc : Nat) (w W : World) : Prop where
  rx : Rw W bx #[.slice sa l.length sc, .slice (some ⟨gP, 0, none⟩) l.length lc, .slice none 0 0, .slice none 0 0, .slice none 0 0, .slice ca m cc, .slice (some ⟨bA, 0, none⟩) m m, .slice (some ⟨bV, 0, none⟩) m m, .bool false] 82
  rA : Rw W bA (zBj m fun _ => 0) 3
  rV : Rw W bV (zBj m fun _ => 0) 3
  oP : Own w.heap.size W 3 1 (some ⟨gP, 0, none⟩) l.length lc (zQ (par l))
  ne : bx ≠ bA ∧ bx ≠ bV ∧ bA ≠ bV ∧ gP ≠ bx ∧ gP ≠ bA ∧ gP ≠ bV
  ge : w.heap.size ≤ bx ∧ w.heap.size ≤ bA ∧ w.heap.size ≤ bV
  hb : Below w.heap.size w W
section
variable {l : List Fl} {m : Nat} {w W W2 : World} {bA bV : Option Nat} {g : Option (Nat × Nat)} {b c : Nat}
theorem zDq (m : Nat) : madeCells #[.int .i64 0] m = zBj m fun _ => 0 := by
  have := zKw (.int .i64 0) m
  rw [Nat.mul_one] at this
  apply Array.ext'
  rw [this]
  simp only [zBj]
  apply List.ext_getElem
  · simp
  · intro i h1 h2; simp
theorem TBg.start : TBg l m w w none none none := ⟨b0 w, (fun _ h => by cases h), (fun _ h => by cases h), (fun _ _ h => by cases h), (fun _ _ h => by cases h), (fun _ _ _ h => by cases h), (fun _ _ _ h => by cases h)⟩
theorem TBg.below (h : TBg l m w W bA bV g) (hb : Below W.heap.size W W2) : TBg l m w W2 bA bV g :=
  ⟨bt h.hb hb, fun b e => ⟨(h.rA b e).1.below hb, (h.rA b e).2⟩, fun b e => ⟨(h.rV b e).1.below hb, (h.rV b e).2⟩, fun b c e => ⟨(h.ol b c e).1.below hb, (h.ol b c e).2.1, zLQ (h.ol b c e).2.2 hb.size⟩, h.av, h.ag, h.vg⟩
theorem TBg.a (h : TBg l m w W none bV g) (hb : b = W.heap.size) : TBg l m w (W.alloc (.cells (madeCells #[.int .i64 0] m) 3)) (some b) bV g := by
  have h' := h.below (ba (b0 W) (.cells (madeCells #[.int .i64 0] m) 3))
  subst hb
  refine ⟨h'.hb, fun _ e => ?_, h'.rV, h'.ol, fun x y e1 e2 => ?_, fun x y c e1 e2 => ?_, h'.vg⟩ <;> (first | cases e | cases e1)
  · exact ⟨by rw [← zDq]; exact Rw.new W _ _, h.hb.size⟩
  · have := (h.rV y e2).1.lt; omega
  · have := (h.ol y c e2).2.2; omega
theorem TBg.v (h : TBg l m w W bA none g) (hb : b = W.heap.size) : TBg l m w (W.alloc (.cells (madeCells #[.int .i64 0] m) 3)) bA (some b) g := by
  have h' := h.below (ba (b0 W) (.cells (madeCells #[.int .i64 0] m) 3))
  subst hb
  refine ⟨h'.hb, h'.rA, fun _ e => ?_, h'.ol, fun x y e2 e1 => ?_, h'.ag, fun x y c e1 e2 => ?_⟩ <;> (first | cases e | cases e1)
  · exact ⟨by rw [← zDq]; exact Rw.new W _ _, h.hb.size⟩
  · have := (h.rA x e2).1.lt; omega
  · have := (h.ol y c e2).2.2; omega
theorem TBg.p (h : TBg l m w W bA bV none) (hb : Below W.heap.size W W2) (ho : Own W.heap.size W2 3 1 (some ⟨b, 0, none⟩) l.length c (zQ (par l))) (h1 : W.heap.size ≤ b) (h2 : b < W2.heap.size) : TBg l m w W2 bA bV (some (b, c)) := by
  have h' := h.below hb
  have hs := h.hb.size
  refine ⟨h'.hb, h'.rA, h'.rV, fun _ _ e => ?_, h'.av, fun x y c e1 e => ?_, fun x y c e1 e => ?_⟩ <;> cases e
  · exact ⟨ho.mono hs, by omega, h2⟩
  · have := (h.rA x e1).1.lt; omega
  · have := (h.rV x e1).1.lt; omega
end
theorem TBg.done {l : List Fl} {m : Nat} {sa ca : Option Addr} {sc cc bx bA bV gP lc : Nat} {w W : World} (h : TBg l m w W (some bA) (some bV) (some (gP, lc))) (hx : bx = W.heap.size) :
    RBg l m sa ca sc cc bx bA bV gP lc w (W.alloc (.cells #[.slice sa l.length sc, .slice (some ⟨gP, 0, none⟩) l.length lc, .slice none 0 0, .slice none 0 0, .slice none 0 0, .slice ca m cc, .slice (some ⟨bA, 0, none⟩) m m, .slice (some ⟨bV, 0, none⟩) m m, .bool false] 82)) := by
  subst hx
  have h' := h.below (ba (b0 W) (.cells #[.slice sa l.length sc, .slice (some ⟨gP, 0, none⟩) l.length lc, .slice none 0 0, .slice none 0 0, .slice none 0 0, .slice ca m cc, .slice (some ⟨bA, 0, none⟩) m m, .slice (some ⟨bV, 0, none⟩) m m, .bool false] 82))
  have h1 := (h.rA _ rfl).1.lt; have h2 := (h.rV _ rfl).1.lt; have h4 := (h.ol _ _ rfl).2.2
  have n1 := h.av _ _ rfl rfl; have n2 := h.ag _ _ _ rfl rfl; have n3 := h.vg _ _ _ rfl rfl
  exact ⟨Rw.new W _ _, (h'.rA _ rfl).1, (h'.rV _ rfl).1, (h'.ol _ _ rfl).1, ⟨by omega, by omega, n1, by omega, fun e => n2 e.symm, fun e => n3 e.symm⟩, ⟨h.hb.size, (h.rA _ rfl).2, (h.rV _ rfl).2⟩, h'.hb⟩
structure GQ (B U : Nat) (cur : Array Value) (aR : Option Addr) (nR cR : Nat) (xR : List Value) (aD : Option Addr) (nD cD : Nat) (xD : List Value) (aF : Option Addr) (nF cF : Nat) (xF : List Value) (w : World) : Prop where
  row : Rw w U cur 82
  oR : Own B w 3 1 aR nR cR xR
  oD : Own B w 3 1 aD nD cD xD
  oF : Own B w 3 1 aF nF cF xF
  rd : ∀ g, blk aR g → ¬ blk aD g
  rf : ∀ g, blk aR g → ¬ blk aF g
  df : ∀ g, blk aD g → ¬ blk aF g
  lt : ∀ g, blk aR g ∨ blk aD g ∨ blk aF g → g < w.heap.size
  bb : U < B
  le : B ≤ w.heap.size
section
variable {B U : Nat} {cur : Array Value} {aR aD aF : Option Addr} {nR cR nD cD nF cF : Nat} {xR xD xF : List Value} {w w' : World}
theorem GQ.below (h : GQ B U cur aR nR cR xR aD nD cD xD aF nF cF xF w) (hb : Below w.heap.size w w') : GQ B U cur aR nR cR xR aD nD cD xD aF nF cF xF w' :=
  ⟨h.row.below hb, h.oR.below hb, h.oD.below hb, h.oF.below hb, h.rd, h.rf, h.df, fun g hg => zLQ (h.lt g hg) hb.size, h.bb, Nat.le_trans h.le hb.size⟩
theorem GQ.nb (_ : GQ B U cur aR nR cR xR aD nD cD xD aF nF cF xF w) {o : Obj} {X : World} (hX : X = w.alloc o) : Below w.heap.size w X := by rw [hX]; exact ba (b0 w) _
theorem GQ.nr (_ : GQ B U cur aR nR cR xR aD nD cD xD aF nF cF xF w) {c : Array Value} {t : TypeId} {X : World} (hX : X = w.alloc (.cells c t)) : Rw X w.heap.size c t := by rw [hX]; exact Rw.new w _ _
theorem GQ.pushR (h : GQ B U cur aR nR cR xR aD nD cD xD aF nF cF xF w) {a' : Option Addr} {n' c' : Nat} {x' : List Value} (hn0 : 0 < n') (ho : Own B w' 3 1 a' n' c' x') (hc : Chg (fun g => blk aR g ∧ B ≤ g ∧ 0 < cR) w w') (hn : ∀ g, blk a' g → blk aR g ∨ w.heap.size ≤ g) : GQ B U cur a' n' c' x' aD nD cD xD aF nF cF xF w' := by
  obtain ⟨g0, rfl, hg1, hg2, _⟩ := ho.pos hn0
  refine ⟨h.row.chg hc (fun k => by have := k.2.1; have := h.bb; omega), ho, h.oD.chg hc (fun k hk k2 => h.rd k k2.1 hk), h.oF.chg hc (fun k hk k2 => h.rf k k2.1 hk), fun g hg hd => ?_, fun g hg hd => ?_, h.df, fun g hg => ?_, h.bb, Nat.le_trans h.le hc.size⟩
  · rcases hn g hg with k | k
    · exact h.rd g k hd
    · exact absurd (h.lt g (.inr (.inl hd))) (by omega)
  · rcases hn g hg with k | k
    · exact h.rf g k hd
    · exact absurd (h.lt g (.inr (.inr hd))) (by omega)
  · rcases hg with k | k
    · obtain ⟨o, s, e⟩ := k
      simp only [Option.some.injEq, Addr.mk.injEq] at e
      rw [← e.1]; exact hg2
    · exact zLQ (h.lt g (.inr k)) hc.size
theorem GQ.swap (h : GQ B U cur aR nR cR xR aD nD cD xD aF nF cF xF w) : GQ B U cur aD nD cD xD aR nR cR xR aF nF cF xF w :=
  ⟨h.row, h.oD, h.oR, h.oF, fun g h1 h2 => h.rd g h2 h1, h.df, h.rf, fun g hg => h.lt g (by rcases hg with k | k | k; exact .inr (.inl k); exact .inl k; exact .inr (.inr k)), h.bb, h.le⟩
theorem GQ.swapF (h : GQ B U cur aR nR cR xR aD nD cD xD aF nF cF xF w) : GQ B U cur aF nF cF xF aD nD cD xD aR nR cR xR w :=
  ⟨h.row, h.oF, h.oD, h.oR, fun g h1 h2 => h.df g h2 h1, fun g h1 h2 => h.rf g h2 h1, fun g h1 h2 => h.rd g h2 h1, fun g hg => h.lt g (by rcases hg with k | k | k; exact .inr (.inr k); exact .inr (.inl k); exact .inl k), h.bb, h.le⟩
theorem GQ.set (h : GQ B U cur aR nR cR xR aD nD cD xD aF nF cF xF w) (j : Nat) (u : Value) : GQ B U (cur.setIfInBounds j u) aR nR cR xR aD nD cD xD aF nF cF xF (w.setCell ⟨U, j, none⟩ u) :=
  ⟨h.row.set _ _, h.oR.setBelow h.bb _, h.oD.setBelow h.bb _, h.oF.setBelow h.bb _, h.rd, h.rf, h.df, fun g hg => by simpa using h.lt g hg, h.bb, by simpa using h.le⟩
end
def zFw (l : List Fl) (m : Nat) (sa ca : Option Addr) (sc cc bA bV gP lc : Nat) (v2 v3 v4 : Value) : Array Value :=
  #[.slice sa l.length sc, .slice (some ⟨gP, 0, none⟩) l.length lc, v2, v3, v4, .slice ca m cc, .slice (some ⟨bA, 0, none⟩) m m, .slice (some ⟨bV, 0, none⟩) m m, .bool false]
def zLg (l : List Fl) (L : List Cl) (sa ca : Option Addr) (sc cc : Nat) (w : World) (e : Ending) (w' : World) : Prop :=
  ∃ q : RQ, e = .returned (.pointer (some ⟨q.b.bx, 0, none⟩)) ∧ q.b.l = l ∧ q.b.L = L ∧ RS q w' ⟨fun _ => 0, fun _ => 0, false⟩ ∧ Below w.heap.size w w' ∧ ∀ k, q.ch k → w.heap.size ≤ k
set_option maxHeartbeats 4000000 in
set_option maxRecDepth 100000 in
theorem zGH (sa ca : Option Addr) (sc m cc : Nat) (l : List Fl) (L : List Cl) (xs : List Value) (w : World) (hs : Sl (fun b => b < w.heap.size) w 4 sa l.length sc (fls l)) (hc : xE w ca m cc L xs) (hm : m = (zG l l.length).length) (hn : l.length ≤ 1000) (hkid : ∀ x ∈ l, x.kids ≤ 1000) (hrp : ∀ x ∈ l, x.rep = 0 ∨ x.rep = 1 ∨ x.rep = 2) (hlp : 0 < l.length) :
    Calls Try.prog 32 #[.slice sa l.length sc, .slice ca m cc] w (zLg l L sa ca sc cc w) := by
  obtain ⟨ii, hii, hz0i, hz1i, hz2i⟩ := info_parts jR
  have hmn : m ≤ 1000 := by have := yW (l := l) (m := l.length); omega
  have HPL := zH (zW l)
  have HS := zH hs; have HK := zH hkid; have HRP := zH hrp; have HCO := zH hc; have HM := zH hm
  have hmk := fun w => qM (P := Try.prog) 22 3 (.int .i64 0) 8 1 Try.underlying22 jR .i64 .i64 m (by omega) (by omega) w
  have HPAR := zH (fun (W : World) (hb : Below w.heap.size w W) => zBu sa l.length sc l W (slb HS.out hb) hn HK.out)
  clear hs hkid hrp hc hm
  have T : TBg l m w w none none none := TBg.start
  go_enter Try.func32, Try.ntmps32
  go_upto_region 1 with fail
  go_cut [5] from 11 to 22 (fun v wc => ∃ (bx bA bV gP lc : Nat), v = .pointer (some ⟨bx, 0, none⟩) ∧ Hid (RBg l m sa ca sc cc bx bA bV gP lc w wc))
  case first =>
    refine zF (fun _ => True) [12] (by decide +kernel) ?g71rgS (fun hHeld => ?g71rgR)
    case g71rgS => trivial
    try dsimp only at hHeld
    obtain ⟨W, hW⟩ : ∃ W, W = w.drew := ⟨_, rfl⟩; rw [← hW]; (replace T := T.below (show Below w.heap.size w W by rw [hW]; exact (b0 w).drew)); clear hW
    repeat' first
      | exact zA.nil
      | refine zB (fuel := 5) [2, 6, 9] (by decide +kernel) (by simp) ?_
      | refine zB (fuel := 4) [6, 9] (by decide +kernel) (by simp) ?_
      | refine zB (fuel := 4) [2, 9] (by decide +kernel) (by simp) ?_
      | refine zB (fuel := 4) [2, 6] (by decide +kernel) (by simp) ?_
      | refine zB (fuel := 3) [9] (by decide +kernel) (by simp) ?_
      | refine zB (fuel := 3) [6] (by decide +kernel) (by simp) ?_
      | refine zB (fuel := 3) [2] (by decide +kernel) (by simp) ?_
      | refine zB (fuel := 1) [11] (by decide +kernel) (by simp) ?_
      | refine zB (fuel := 0) [12] (by decide +kernel) (by simp) ?_
      | (refine zD [0, 1, 3, 4, 5, 7, 8] 6 (by decide +kernel) (fun _ _ _ _ _ h => h) (by assumption) ?_; (iterate 7 ((apply YA.take rfl (by rfl); case hy => intro w hSw; go_simp; try with_reducible rfl); try simp only [pD])); refine YA.nil ?_)
      | (refine zD [10] 2 (by decide +kernel) (fun _ _ _ _ _ h => h) (by assumption) ?_; (iterate 1 ((apply YA.take rfl (by rfl); case hy => intro w hSw; go_simp; try with_reducible rfl); try simp only [pD])); refine YA.nil ?_)
      | (refine zA.con 2 rfl (fun K hK => ?_) ?_; (go_simp; refine (HPAR.out W T.hb).mono ?_; rintro e W2 ⟨aL, lc, rfl, oL, hbL⟩; (obtain ⟨gP, hgL, h1, h2, _, _⟩ := oL.own.pos hlp); subst hgL; dsimp only; (replace T := T.p hbL oL.own h1 h2); clear oL hbL h1 h2; (obtain ⟨W, hW2⟩ : ∃ W, W = W2 := ⟨_, rfl⟩); subst hW2); (refine hK.out _ _ (by trivial) (fun hHeld => ?_)); try dsimp only at hHeld; clear hK K; try simp only [pD])
      | (refine zA.con 6 rfl (fun K hK => ?_) ?_; ((obtain ⟨bA, hb⟩ : ∃ b2, b2 = W.heap.size := ⟨_, rfl⟩); go_simp; rw [← hb]; (replace T := T.a hb); refine xN (fun W hW => ?_); rw [← hW] at T; clear hW hb); (refine hK.out _ _ (by trivial) (fun hHeld => ?_)); try dsimp only at hHeld; clear hK K; try simp only [pD])
      | (refine zA.con 9 rfl (fun K hK => ?_) ?_; ((obtain ⟨bV, hb⟩ : ∃ b2, b2 = W.heap.size := ⟨_, rfl⟩); go_simp; rw [← hb]; (replace T := T.v hb); refine xN (fun W hW => ?_); rw [← hW] at T; clear hW hb); (refine hK.out _ _ (by trivial) (fun hHeld => ?_)); try dsimp only at hHeld; clear hK K; try simp only [pD])
      | (refine zA.con 11 rfl (fun K hK => ?_) ?_; ((obtain ⟨bx, hb⟩ : ∃ b2, b2 = W.heap.size := ⟨_, rfl⟩); go_simp; rw [← hb]; (have R := T.done (sa := sa) (ca := ca) (sc := sc) (cc := cc) hb); refine xN (fun W hW => ?_); rw [← hW] at R; clear hW hb T); (refine hK.out _ _ (by trivial) (fun hHeld => ?_)); try dsimp only at hHeld; clear hK K; try simp only [pD])
      | (refine zA.lst 12 rfl (by decide +kernel) (fun K hK => ?_) ?_; (go_simp); refine hK.out _ _ ?_; clear hK K; try simp only [pD])
      | (refine zE (by decide +kernel) ?_
         go_wp2_with fail
         go_meet
         case rel => exact ⟨bx, bA, bV, gP, lc, rfl, zH R⟩)
  case rest =>
    obtain ⟨U, bA, bV, gP, lc, rfl, HR⟩ := hcut
    obtain ⟨wz, hwz⟩ : ∃ wz : World, wz = wc := ⟨_, rfl⟩
    subst hwz
    clear hmk HPAR T
    have hUl := HR.out.rx.lt
    have hszw := HR.out.hb.size
    have HG0 : Hid (GQ wz.heap.size U (zFw l m sa ca sc cc bA bV gP lc (.slice none 0 0) (.slice none 0 0) (.slice none 0 0)) none 0 0 (zQ ((zBL l).take 0)) none 0 0 (zQ ((zD4 l).take 0)) none 0 0 (zQ ((qO l).take 0)) wz) :=
      zH ⟨HR.out.rx, Own.nil _ _ _ _, Own.nil _ _ _ _, Own.nil _ _ _ _, fun g h => by simp [blk] at h, fun g h => by simp [blk] at h, fun g h => by simp [blk] at h, fun g h => by simp [blk] at h, hUl, zLR _⟩
    have HSW0 := zH (slb HS.out HR.out.hb)
    go_wp2_with fail
    go_loopw [6, 7] (fun nv iv wr => ∃ (i : Nat) (aR : Option Addr) (cR : Nat) (aD : Option Addr) (cD : Nat) (aF : Option Addr) (cF : Nat), nv = .int .i64 ((zG l i).length : Int) ∧ iv = .int .i64 (i : Int) ∧ i ≤ l.length ∧
      Hid (GQ wz.heap.size U (zFw l m sa ca sc cc bA bV gP lc (.slice aR i cR) (.slice aD i cD) (.slice aF i cF)) aR i cR (zQ ((zBL l).take i)) aD i cD (zQ ((zD4 l).take i)) aF i cF (zQ ((qO l).take i)) wr) ∧ Hid (Chg (fun b => b = U) wz wr)) (fun _ iv _ => l.length - (intOf iv).toNat)
    case atStart => exact ⟨0, none, 0, none, 0, none, 0, rfl, rfl, Nat.zero_le _, HG0, zH (Chg.refl _ _)⟩
    case round =>
      obtain ⟨i, aR, cR, aD, cD, aF, cF, rfl, rfl, hi, HG, HC⟩ := hrel
      have hszr := HC.out.size
      have hlf := yW (l := l) (m := i)
      by_cases hil : i < l.length
      · have HSW := zH (Sl.go (ok' := fun b => b < w.heap.size) HC.out (fun k hk hw => ⟨fun e => by have e' : k = U := e; have := HR.out.ge.1; omega, hw⟩) (HS.out.go (ok' := fun b => b < w.heap.size) (chF HR.out.hb) (fun k hk h => ⟨fun h => h, h⟩) (by decide)) (by decide))
        obtain ⟨bs, os, rfl, hbs, hsc⟩ := HSW.out.pos (by omega)
        have HSC := zH hsc
        have HPO := zH (HR.out.oP.chg HC.out (fun k ⟨_, _, e⟩ e2 => by cases e; exact HR.out.ne.2.2.2.1 e2))
        have x1 : wr.cell? ⟨U, 1, none⟩ = some (.slice (some ⟨gP, 0, none⟩) l.length lc) := HG.out.row.cell 1
        have HRL : Hid (0 + zAj l (yD (par l) (i : Int)) = lvR l i ∧ 0 + zBh l (yD (par l) (i : Int)) = lvD l i) := zH (by rw [yF]; simp [lvR, lvD])
        have hlR : lvR l i ≤ 1000 ∧ lvD l i ≤ 1000 := by have := zAE l (Go.Shr.chain (par l) i); have := zCp l (Go.Shr.chain (par l) i); have := xJ (par l) i; unfold lvR lvD; omega
        clear hsc
        obtain ⟨wo, hwo⟩ : ∃ wo : World, wo = wr := ⟨_, rfl⟩
        subst hwo
        go_wp2_with fail
        go_loopw [8, 9, 10] (fun rv dv kv wq => ∃ (r d : Nat) (k : Int), rv = .int .i64 (r : Int) ∧ dv = .int .i64 (d : Int) ∧ kv = .int .i64 k ∧ -1 ≤ k ∧ k ≤ (i : Int) ∧ Hid (r + zAj l (yD (par l) k) = lvR l i ∧ d + zBh l (yD (par l) k) = lvD l i) ∧ wo = wq) (fun _ _ kv _ => (intOf kv + 1).toNat)
        case atStart => exact ⟨0, 0, (i : Int), rfl, rfl, rfl, by omega, Int.le_refl _, HRL, rfl⟩
        case round =>
          obtain ⟨r, d, k, rfl, rfl, rfl, hk1, hk2, HCN, rfl⟩ := hrel
          by_cases hk0 : 0 ≤ k
          · obtain ⟨K, rfl⟩ : ∃ K : Nat, k = (K : Int) := ⟨k.toNat, by omega⟩
            have hKl : K < l.length := by omega
            have hKp : K < (par l).length := by rw [HPL.out]; exact hKl
            have b1 := HSC.out _ _ (yB l K hKl).2.1
            rw [← Nat.add_assoc] at b1
            obtain ⟨gP', hgp, _, _, hpc, _⟩ := HPO.out.pos hlp
            cases hgp
            have p0 := hpc _ _ (zO (par l) K hKp)
            have hqb := yI l K hKp
            have hcn : (r + ((if l[K].rep = 2 then 1 else 0) + zAj l (yD (par l) (par l)[K])) = lvR l i) ∧ (d + ((if l[K].rep = 0 then 0 else 1) + zBh l (yD (par l) (par l)[K])) = lvD l i) := by
              have h1 := HCN.out
              rw [yF, xU (fun j hj => yI l j hj) hKp, jI, zAq, qS hKl] at h1
              exact h1
            have hrr := HRP.out l[K] (List.getElem_mem hKl)
            generalize (par l)[K] = pk at *
            generalize hxr : l[K].rep = xr at *
            clear hxr hpc
            rcases hrr with rfl | rfl | rfl
            · have HCN2 : Hid (r + zAj l (yD (par l) pk) = lvR l i ∧ d + zBh l (yD (par l) pk) = lvD l i) := zH (by simp at hcn; omega)
              clear hcn
              go_wp2_with fail
              go_roundw
              case rel => exact ⟨r, d, pk, rfl, rfl, rfl, hqb.1, by omega, HCN2, by first | rfl | trivial⟩
              case measure => simp [intOf]; omega
            · have HCN2 : Hid (r + zAj l (yD (par l) pk) = lvR l i ∧ d + 1 + zBh l (yD (par l) pk) = lvD l i) := zH (by simp at hcn; omega)
              have hdl : d + 1 ≤ 1000 := by have := HCN2.out.2; omega
              clear hcn
              go_wp2_with fail
              go_roundw
              case rel => exact ⟨r, d + 1, pk, rfl, by go_num, rfl, hqb.1, by omega, HCN2, by first | rfl | trivial⟩
              case measure => simp [intOf]; omega
            · have HCN2 : Hid (r + 1 + zAj l (yD (par l) pk) = lvR l i ∧ d + 1 + zBh l (yD (par l) pk) = lvD l i) := zH (by simp at hcn; omega)
              have hdl : d + 1 ≤ 1000 ∧ r + 1 ≤ 1000 := by have := HCN2.out; omega
              clear hcn
              go_wp2_with fail
              go_roundw
              case rel => exact ⟨r + 1, d + 1, pk, by go_num, by go_num, rfl, hqb.1, by omega, HCN2, by first | rfl | trivial⟩
              case measure => simp [intOf]; omega
          · have hcn := HCN.out
            rw [qC _ (by omega)] at hcn
            obtain ⟨rfl, rfl⟩ : r = lvR l i ∧ d = lvD l i := by simpa [zAj, zBh] using hcn
            clear hcn HCN HRL x1
            have T0 := HG.out
            have hBW0 : Below w.heap.size w wo := Chg.bt HR.out.hb HC.out (fun b hb e => by have e' : b = U := e; have := HR.out.ge.1; omega)
            have HCX := zH (And.intro T0 (And.intro hBW0 HC.out))
            have hUw := HR.out.ge.1
            have hwl : w.heap.size ≤ wz.heap.size := hszw
            clear T0 hBW0
            go_upto_region 14 with fail
            obtain ⟨R, hRR⟩ : ∃ R, R = lvR l i := ⟨_, rfl⟩
            obtain ⟨D, hDD⟩ : ∃ D, D = lvD l i := ⟨_, rfl⟩
            rw [← hRR, ← hDD]
            have HRD := zH (And.intro hRR hDD)
            clear hRR hDD hlR
            go_cut [] from 55 to 74 (fun wd => ∃ (a9 : Option Addr) (cap9 : Nat) (a16 : Option Addr) (cap16 : Nat), Hid (GQ wz.heap.size U (zFw l m (some ⟨bs, os, none⟩) ca sc cc bA bV gP lc (.slice a9 (i + 1) cap9) (.slice a16 (i + 1) cap16) (.slice aF i cF)) a9 (i + 1) cap9 (zQ ((zBL l).take i) ++ [.int .i64 (R : Int)]) a16 (i + 1) cap16 (zQ ((zD4 l).take i) ++ [.int .i64 (D : Int)]) aF i cF (zQ ((qO l).take i)) wd) ∧ Hid (Below w.heap.size w wd) ∧ Hid (Chg (fun b => b = U) wz wd))
            case first =>
              refine zF (fun w' => w'.cell? ⟨U, 2, none⟩ = some (.slice aR i cR) ∧ w'.cell? ⟨U, 3, none⟩ = some (.slice aD i cD)) [1, 18, 19, 20, 21] (by decide +kernel) ?g72rgS (fun hHeld => ?g72rgR)
              case g72rgS => (try dsimp only); (first | exact ⟨HCX.out.1.row.cell 2, HCX.out.1.row.cell 3⟩ | exact ⟨T.row.cell 2, T.row.cell 3⟩)
              try dsimp only at hHeld
              obtain ⟨W, hW⟩ : ∃ W, W = wo.drew := ⟨_, rfl⟩; rw [← hW] at hHeld ⊢; (have hBW : Below w.heap.size w W := by rw [hW]; exact HCX.out.2.1.drew); (have hCW : Chg (fun b => b = U) wz W := by rw [hW]; exact HCX.out.2.2.drew); (have T : GQ wz.heap.size U (zFw l m (some ⟨bs, os, none⟩) ca sc cc bA bV gP lc (.slice aR i cR) (.slice aD i cD) (.slice aF i cF)) aR i cR (zQ ((zBL l).take i)) aD i cD (zQ ((zD4 l).take i)) aF i cF (zQ ((qO l).take i)) W := by rw [hW]; exact GQ.below HCX.out.1 (b0 wo).drew); clear hW
              refine zA0 1 (oi := ⟨some 56, .move (.tmp 5), 79, "ref.go:42", #[{ on := 18, ground := Go.Ground.gcOnly Go.Departure.lateStores }], none⟩) (v := ?g72rv1) rfl (by decide +kernel) (fun _ _ _ h => h) (by rfl) ?g72ry1 ?g72rr1
              case g72ry1 => intro w0' _; go_simp; try with_reducible rfl
              try simp only [pD]
              refine zBo (F := [18, 19, 20, 21]) (by simp) _ _ _ _ ?_
              repeat' first
                | exact zA.nil
                | refine zB (fuel := 9) [7, 14] (by decide +kernel) (by simp) ?_
                | refine zB (fuel := 8) [8, 14] (by decide +kernel) (by simp) ?_
                | refine zB (fuel := 8) [7] (by decide +kernel) (by simp) ?_
                | refine zB (fuel := 7) [14] (by decide +kernel) (by simp) ?_
                | refine zB (fuel := 7) [8] (by decide +kernel) (by simp) ?_
                | refine zB (fuel := 6) [15] (by decide +kernel) (by simp) ?_
                | refine zB (fuel := 3) [18] (by decide +kernel) (by simp) ?_
                | refine zB (fuel := 2) [19] (by decide +kernel) (by simp) ?_
                | refine zB (fuel := 1) [20] (by decide +kernel) (by simp) ?_
                | refine zB (fuel := 0) [21] (by decide +kernel) (by simp) ?_
                | (refine zD [0, 2, 3, 4, 5, 6, 9, 10, 11, 12, 13] 10 (by decide +kernel) (fun _ _ _ _ _ h => h) (by assumption) ?_; (iterate 11 ((apply YA.take rfl (by rfl); case hy => rintro w ⟨s1, s2⟩; go_simp; try with_reducible rfl); try simp only [pD])); refine YA.nil ?_)
                | (refine zD [16, 17] 4 (by decide +kernel) (fun _ _ _ _ _ h => h) (by assumption) ?_; (iterate 2 ((apply YA.take rfl (by rfl); case hy => rintro w ⟨s1, s2⟩; go_simp; try with_reducible rfl); try simp only [pD])); refine YA.nil ?_)
                | (refine zA.con 7 rfl (fun K hK => ?_) ?_; (go_simp; refine xN (fun X hX => ?_); (have hb := GQ.nb T hX); (have rn7 := GQ.nr T hX); (try replace rn14 := rn14.below hb); (replace T := T.below hb); (replace hBW := bt hBW hb); (replace hCW := hCW.trans (chF hb) (fun _ _ h => h.elim)); clear hb hX); (refine hK.out _ _ ?_ (fun hHeld => ?_); focus ((try dsimp only); (first | exact ⟨HCX.out.1.row.cell 2, HCX.out.1.row.cell 3⟩ | exact ⟨T.row.cell 2, T.row.cell 3⟩))); try dsimp only at hHeld; clear hK K; try simp only [pD])
                | (refine zA.con 14 rfl (fun K hK => ?_) ?_; (go_simp; refine xN (fun X hX => ?_); (have hb := GQ.nb T hX); (have rn14 := GQ.nr T hX); (have hl14 := fun g hg => T.lt g (Or.inl hg)); (try replace rn7 := rn7.below hb); (replace T := T.below hb); (replace hBW := bt hBW hb); (replace hCW := hCW.trans (chF hb) (fun _ _ h => h.elim)); clear hb hX); (refine hK.out _ _ ?_ (fun hHeld => ?_); focus ((try dsimp only); (first | exact ⟨HCX.out.1.row.cell 2, HCX.out.1.row.cell 3⟩ | exact ⟨T.row.cell 2, T.row.cell 3⟩))); try dsimp only at hHeld; clear hK K; try simp only [pD])
                | (refine zA.con 8 rfl (fun K hK => ?_) ?_; ((refine zN (B := wz.heap.size) rfl _ _ _ _ rfl ii (.int .i64 0) 8 Try.underlying22 hii hz0i hz1i hz2i rfl rfl T.oR _ rfl 1 _ (yP (P := Try.prog) (tx := 22) Try.underlying22 rn7 1 1 rfl (by simp [Value.oneCell'])) (by simp only [maxLen]; omega) (by omega) T.le ?_; intro a9 cap9 W9 ho9 hc9 hn9); (first | ((replace rn14 := rn14.chg hc9 (fun h => Nat.lt_irrefl _ (hl14 _ h.1)))) | (skip)); (replace T := T.pushR (zLS _) ho9 hc9 hn9); (replace hBW := Chg.bt hBW hc9 (fun k hk h => by have := h.2.1; omega)); (replace hCW := hCW.trans hc9 (fun k hk h => by have := h.2.1; omega)); clear ho9 hc9 hn9 rn7); (refine hK.out _ _ ?_ (fun hHeld => ?_); focus ((try dsimp only); (first | exact ⟨HCX.out.1.row.cell 2, HCX.out.1.row.cell 3⟩ | exact ⟨T.row.cell 2, T.row.cell 3⟩))); try dsimp only at hHeld; clear hK K; try simp only [pD])
                | (refine zA.con 15 rfl (fun K hK => ?_) ?_; ((refine zN (B := wz.heap.size) rfl _ _ _ _ rfl ii (.int .i64 0) 8 Try.underlying22 hii hz0i hz1i hz2i rfl rfl T.oD _ rfl 1 _ (yP (P := Try.prog) (tx := 22) Try.underlying22 rn14 1 1 rfl (by simp [Value.oneCell'])) (by simp only [maxLen]; omega) (by omega) T.le ?_; intro a16 cap16 W16 ho16 hc16 hn16); (replace T := (T.swap.pushR (zLS _) ho16 hc16 hn16).swap); (replace hBW := Chg.bt hBW hc16 (fun k hk h => by have := h.2.1; omega)); (replace hCW := hCW.trans hc16 (fun k hk h => by have := h.2.1; omega)); clear ho16 hc16 hn16 rn14); (refine hK.out _ _ ?_ (fun hHeld => ?_); focus ((try dsimp only); (first | exact ⟨HCX.out.1.row.cell 2, HCX.out.1.row.cell 3⟩ | exact ⟨T.row.cell 2, T.row.cell 3⟩))); try dsimp only at hHeld; clear hK K; try simp only [pD])
                | (refine zA.lst 18 rfl (by decide +kernel) (fun K hK => ?_) ?_; ((have qf := T.row.frozen); (have ql := T.row.lt); (have qc := T.row.cell 2); (have qd := T.row.cell 3); go_simp); refine hK.out _ _ ?_; clear hK K; try simp only [pD])
                | (refine zA.lst 19 rfl (by decide +kernel) (fun K hK => ?_) ?_; (go_simp); refine hK.out _ _ ?_; clear hK K; try simp only [pD])
                | (refine zA.lst 20 rfl (by decide +kernel) (fun K hK => ?_) ?_; (go_simp); refine hK.out _ _ ?_; clear hK K; try simp only [pD])
                | (refine zA.lst 21 rfl (by decide +kernel) (fun K hK => ?_) ?_; (go_simp); refine hK.out _ _ ?_; clear hK K; try simp only [pD])
                | (refine zE (by decide +kernel) ?_
                   have T2 := (T.set 2 (.slice a9 (i + 1) cap9)).set 3 (.slice a16 (i + 1) cap16)
                   have hB2 := (hBW.setCell (p := ⟨U, 2, none⟩) hUw (.slice a9 (i + 1) cap9)).setCell (p := ⟨U, 3, none⟩) hUw (.slice a16 (i + 1) cap16)
                   have hC2 := (hCW.setCell (p := ⟨U, 2, none⟩) (.inr rfl) (.slice a9 (i + 1) cap9)).setCell (p := ⟨U, 3, none⟩) (.inr rfl) (.slice a16 (i + 1) cap16)
                   have HT2 := zH T2; have HB2 := zH hB2; have HC2 := zH hC2
                   clear T T2 hBW hCW hB2 hC2 qf ql qc qd hHeld
                   go_wp2_with fail
                   go_meet
                   case rel => exact ⟨a9, cap9, a16, cap16, HT2, HB2, HC2⟩)
            case rest =>
              obtain ⟨a9, cap9, a16, cap16, HT2, HB2, HC2⟩ := hcut
              clear HCX HG HC
              have hsl2 := HS.out.go (ok' := fun b => b < w.heap.size) (chF HB2.out) (fun k hk h => ⟨fun h => h, h⟩) (by decide)
              obtain ⟨_, _, hse, _, hsc6⟩ := hsl2.pos (by omega)
              cases hse
              have a2 := hsc6 _ _ (yB l i hil).2.2.1
              rw [← Nat.add_assoc] at a2
              have x4 : wc.cell? ⟨U, 4, none⟩ = some (.slice aF i cF) := HT2.out.row.cell 4
              have HOF := zH HT2.out.oF
              have hszc := HC2.out.size
              have HKD : Hid ((flN l i).kind = l[i].kind) := zH (by rw [qS hil])
              have HTK : Hid (zQ ((zBL l).take (i + 1)) = zQ ((zBL l).take i) ++ [.int .i64 (R : Int)] ∧ zQ ((zD4 l).take (i + 1)) = zQ ((zD4 l).take i) ++ [.int .i64 (D : Int)]) := zH ⟨by
                rw [qI (by rw [zAW]; exact hil), zCa, HRD.out.1], by
                rw [qI (by rw [zBx]; exact hil)]
                have e : (zD4 l)[i]'(by rw [zBx]; exact hil) = (lvD l i : Int) := by simp [zD4]
                rw [e, HRD.out.2]⟩
              have HFK : Hid (zQ ((qO l).take (i + 1)) = zQ ((qO l).take i) ++ [.int .i64 (if (flN l i).kind = 0 then -1 else ((zG l i).length : Int))]) := zH (by
                rw [qI (by rw [qU]; exact hil), zEB])
              generalize l[i].kind = kd at *
              have tok2 : True := trivial
              clear hsc6 hsl2
              by_cases hk0' : kd = 0
              · have hkb : (kd == 0) = true := beq_iff_eq.2 hk0'
                have HNX : Hid ((zG l (i + 1)).length = (zG l i).length) := zH (by rw [jC (by rw [HKD.out]; exact hk0')])
                have HNK : Hid ((flN l i).kind = 0) := zH (by rw [HKD.out]; exact hk0')
                clear hk0'
                go_wp2_with (first
                  | (at_builtin; have _t := tok2; clear tok2; clear _t; refine zI (B := wz.heap.size) rfl _ _ _ _ rfl ii (.int .i64 0) 8 Try.underlying22 hii hz0i hz1i hz2i rfl rfl (HOF.out.alloc _) _ rfl _ _ (zCj (e' := 3) Try.underlying22 wc (.int .i64 (-1)) 3 rfl) (by simp only [maxLen]; omega) (by omega) (by first | omega | (simp; omega) | simp) ?_; intro a7 cap7 w7 ho7 hc7 hn7); (have g7 := ((HT2.out.below (ba (b0 wc) (.cells #[.int .i64 (-1)] 3))).swapF.pushR (zLS _) ho7 hc7 hn7).swapF); (have y3 := g7.row.cell 4); (have qf := g7.row.frozen); (have ql := g7.row.lt); (have HG7 := zH g7); (have HC7 := zH ((HC2.out.alloc (.cells #[.int .i64 (-1)] 3)).trans hc7 (fun k hk h => by have := h.2.1; omega))); clear ho7 hc7 hn7 g7 x4
                  | fail)
                go_roundw
                case rel =>
                  have h4 := HG7.out.set 4 (.slice a7 (i + 1) cap7)
                  refine ⟨i + 1, a9, cap9, a16, cap16, a7, cap7, by rw [HNX.out], by go_num, by omega, zH ?_, zH (HC7.out.setCell (p := ⟨U, 4, none⟩) (.inr rfl) (.slice a7 (i + 1) cap7))⟩
                  rw [HTK.out.1, HTK.out.2, HFK.out, if_pos HNK.out]
                  exact h4
                case measure => simp [intOf]; omega
              · have hkb : (kd == 0) = false := beq_eq_false_iff_ne.2 hk0'
                have HNX : Hid ((zG l (i + 1)).length = (zG l i).length + 1) := zH (by rw [xQ (by rw [HKD.out]; exact hk0')]; simp)
                have HNK : Hid (¬ (flN l i).kind = 0) := zH (by rw [HKD.out]; exact hk0')
                clear hk0'
                go_wp2_with (first
                  | (at_builtin; have _t := tok2; clear tok2; clear _t; refine zI (B := wz.heap.size) rfl _ _ _ _ rfl ii (.int .i64 0) 8 Try.underlying22 hii hz0i hz1i hz2i rfl rfl (HOF.out.alloc _) _ rfl _ _ (zCj (e' := 3) Try.underlying22 wc (.int .i64 ((zG l i).length : Int)) 3 rfl) (by simp only [maxLen]; omega) (by omega) (by first | omega | (simp; omega) | simp) ?_; intro a7 cap7 w7 ho7 hc7 hn7); (have g7 := ((HT2.out.below (ba (b0 wc) (.cells #[.int .i64 ((zG l i).length : Int)] 3))).swapF.pushR (zLS _) ho7 hc7 hn7).swapF); (have y3 := g7.row.cell 4); (have qf := g7.row.frozen); (have ql := g7.row.lt); (have HG7 := zH g7); (have HC7 := zH ((HC2.out.alloc (.cells #[.int .i64 ((zG l i).length : Int)] 3)).trans hc7 (fun k hk h => by have := h.2.1; omega))); clear ho7 hc7 hn7 g7 x4
                  | fail)
                go_roundw
                case rel =>
                  have h4 := HG7.out.set 4 (.slice a7 (i + 1) cap7)
                  refine ⟨i + 1, a9, cap9, a16, cap16, a7, cap7, by rw [HNX.out]; go_num, by go_num, by omega, zH ?_, zH (HC7.out.setCell (p := ⟨U, 4, none⟩) (.inr rfl) (.slice a7 (i + 1) cap7))⟩
                  rw [HTK.out.1, HTK.out.2, HFK.out, if_neg HNK.out]
                  exact h4
                case measure => simp [intOf]; omega
      · obtain rfl : i = l.length := by omega
        have hg := HG.out
        rw [zLP (by rw [zAW]; exact zLR _), zLP (by rw [zBx]; exact zLR _), zLP (by rw [qU]; exact zLR _)] at hg
        have HGG := zH hg
        have hBW : Below w.heap.size w wr := Chg.bt HR.out.hb HC.out (fun b hb e => by have e' : b = U := e; have := HR.out.ge.1; omega)
        have HBW := zH hBW
        clear hg hBW
        go_wp2_with fail
        go_ret
        have g1 := HR.out.ne; have g2 := HR.out.ge
        have hlA := HR.out.rA.lt; have hlV := HR.out.rV.lt
        have hm := HM.out
        subst hm
        refine ⟨⟨⟨l, sa, sc, U, wr.heap.size, bA, 0, bV, 0, none, 0, ca, cc, L, xs⟩, some ⟨gP, 0, none⟩, lc, aR, cR, aD, cD, aF, cF⟩, rfl, rfl, rfl, ?_, HBW.out, fun k hk => ?_⟩
        · have hok : ∀ k, k < w.heap.size → k < w.heap.size → ¬ False ∧ RQ.ok ⟨⟨l, sa, sc, U, wr.heap.size, bA, 0, bV, 0, none, 0, ca, cc, L, xs⟩, some ⟨gP, 0, none⟩, lc, aR, cR, aD, cD, aF, cF⟩ k := fun k _ hk => ⟨fun h => h, by have := HBW.out.size; show k < wr.heap.size; omega, fun h => by
            rcases h with h | h | h
            · have h' : k = U := h; omega
            · have h' : k = bA := h; omega
            · have h' : k = bV := h; omega⟩
          have hok2 : ∀ k, k < wr.heap.size → wz.heap.size ≤ k → RQ.ok ⟨⟨l, sa, sc, U, wr.heap.size, bA, 0, bV, 0, none, 0, ca, cc, L, xs⟩, some ⟨gP, 0, none⟩, lc, aR, cR, aD, cD, aF, cF⟩ k := fun k hk1 hk => ⟨hk1, fun h => by
            rcases h with h | h | h
            · have h' : k = U := h; omega
            · have h' : k = bA := h; omega
            · have h' : k = bV := h; omega⟩
          refine ⟨HGG.out.row, HR.out.rA.chg HC.out (fun e => g1.1 e.symm), HR.out.rV.chg HC.out (fun e => g1.2.1 e.symm), ⟨g1.1, g1.2.1, g1.2.2.1⟩, HS.out.go (chF HBW.out) hok (by decide), ?_, HGG.out.oR.sl.mono (fun k hk h => hok2 k hk h.1) (by decide), HGG.out.oD.sl.mono (fun k hk h => hok2 k hk h.1) (by decide), HGG.out.oF.sl.mono (fun k hk h => hok2 k hk h.1) (by decide), HCO.out.sl.go (chF HBW.out) hok (by decide), HCO.out.hd.go (chF HBW.out) hok, zLR _⟩
          refine (HR.out.oP.chg HC.out (fun k ⟨_, _, e⟩ e2 => by cases e; exact g1.2.2.2.1 e2)).sl.mono (fun k hk h => ?_) (by decide)
          obtain ⟨_, ⟨_, _, e⟩, _⟩ := h
          cases e
          exact ⟨hk, fun h => by
            rcases h with h | h | h
            · exact g1.2.2.2.1 h
            · exact g1.2.2.2.2.1 h
            · exact g1.2.2.2.2.2 h⟩
        · rcases hk with hk | hk | hk
          · rw [hk]; exact g2.1
          · rw [hk]; exact g2.2.1
          · rw [hk]; exact g2.2.2
end Go.Proofs.Ytjbkjfefjhbolaa
