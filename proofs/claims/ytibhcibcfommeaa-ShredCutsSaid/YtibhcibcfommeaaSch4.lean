/-
 The walk of tree.fits.
-/
import Derived.Test.YtibhcibcfommeaaSch3
import Derived.Deep.OwnRows
set_option linter.unusedSimpArgs false
namespace Go.Proofs.Ytibhcibcfommeaa
open Go.RowKit Go.Shr
theorem info_li : (Try.prog.info? 22).map (fun i => (i.zero, i.size, i.bytes)) = some (some (.slice none 0 0), 1, 24) := by kernel_rfl
/-- A fitter that is read. -/
def FitAt (w : World) (b3 : Nat) (l : List Fl) : Prop := ∃ a n cap bk, n = l.length ∧ Rw w b3 #[.slice a n cap, .slice (some ⟨bk, 0, none⟩) n n] 107 ∧ Sl (fun b => b < w.heap.size) w 4 a n cap (fls l) ∧ KidsAt w bk n (fun k => kidsOf (par l) k)
theorem FitAt.below {w w' : World} {b3 : Nat} {l : List Fl} (h : FitAt w b3 l) (hb : Below w.heap.size w w') : FitAt w' b3 l := by
 obtain ⟨a, n, cap, bk, h0, h1, h2, h3⟩ := h
 exact ⟨a, n, cap, bk, h0, h1.below hb, slb h2 hb, h3.below hb⟩
set_option maxHeartbeats 1000000 in
set_option maxRecDepth 100000 in
theorem fits_v (a : Option Addr) (n cap : Nat) (l : List Fl) (w : World) (hs : Sl (fun b => b < w.heap.size) w 4 a n cap (fls l)) (hn : n ≤ 1000) (hkid : ∀ x ∈ l, x.kids ≤ 1000) :
  Calls Try.prog 49 #[.slice a n cap] w fun e w' => ∃ b3, e = .returned (.pointer (some ⟨b3, 0, none⟩)) ∧ FitAt w' b3 l ∧ Below w.heap.size w w' := by
 obtain ⟨ii, hii, hz0i, hz1i, hz2i⟩ := info_parts info_i
 have hlen : l.length = n := by have := hs.len; rw [fls_length] at this; omega
 have hPl : (par l).length = n := by rw [par_length, hlen]
 have hmk := fun w => run_make_row' (P := Try.prog) 23 22 (.slice none 0 0) 24 Try.underlying23 info_li rfl .i64 .i64 n (by omega) (by omega) w
 have HS := Lib.hid hs; have HK := Lib.hid hkid; clear hs hkid
 go_enter Try.func49, Try.ntmps49
 go_wp2_with fail
 obtain ⟨wA, hwA⟩ : ∃ wA, wA = ((w.alloc (.cells (madeCells #[.slice none 0 0] n) 22)).alloc (.cells #[.slice a n cap, .slice (some ⟨w.heap.size, 0, none⟩) n n] 107)) := ⟨_, rfl⟩
 have hbA : Below w.heap.size w wA := Go.Shr.Below.ren hwA (ba (ba (b0 w) _) _)
 have rK := Rw.ren hwA ((Rw.new w (madeCells #[.slice none 0 0] n) 22).alloc (.cells #[.slice a n cap, .slice (some ⟨w.heap.size, 0, none⟩) n n] 107))
 have r3 := Rw.ren hwA (Rw.new' (b := w.heap.size + 1) (cur := #[.slice a n cap, .slice (some ⟨w.heap.size, 0, none⟩) n n]) (t := 107) (w := (w.alloc (.cells (madeCells #[.slice none 0 0] n) 22))) (by simp))
 rw [← hwA]
 have hszA : wA.heap.size = w.heap.size + 1 + 1 := by rw [hwA]; simp
 clear hwA
 have HSA := Lib.hid (slb HS.out hbA)
 refine (par_v a n cap l wA HSA.out hn HK.out).mono ?_
 rintro e w2 ⟨aP, cP, rfl, oP, hb2⟩
 have hsz2 := hb2.size
 have hsP := oP.sl
 rw [hszA] at hsP hsz2
 have HP0 := Lib.hid (hsP.mono (ok' := fun k => k < w2.heap.size ∧ k ≠ w.heap.size) (fun k hk h => ⟨hk, by omega⟩) (by decide))
 have R3 := Lib.hid (r3.below hb2)
 have rK2 := rK.below hb2
 have hKI : KI w2.heap.size w2 w.heap.size n (madeCells #[.slice none 0 0] n) (fun _ => none) (fun _ => 0) (fun k => kidsOf ((par l).take 0) k) :=
  ⟨rK2, fun k hk => by rw [List.take_zero]; simp [kidsOf_nil, madeCells, hk, Nat.mod_one], fun k hk => by rw [List.take_zero]; exact Own.nil _ _ _ _, fun k g _ ⟨_, _, h⟩ => (by cases h), fun k j g _ _ _ ⟨_, _, h⟩ => (by cases h)⟩
 have HKI := Lib.hid hKI
 have HBA := Lib.hid (bt hbA hb2)
 have HSS := Lib.hid ((HS.out.below hbA).below hb2)
 clear hb2 oP hsP r3 rK rK2 hKI hbA HS HSA
 go_wp2_with fail
 go_loopw [15] (fun i wr => ∃ (j : Nat) (cur : Array Value) (aa : Nat → Option Addr) (cc : Nat → Nat), i = .int .i64 j ∧ j ≤ n ∧ Hid (KI w2.heap.size wr w.heap.size n cur aa cc (fun k => kidsOf ((par l).take j) k)) ∧ Hid (Chg (fun k => k = w.heap.size ∨ w2.heap.size ≤ k) w2 wr)) (fun i _ => n - (intOf i).toNat)
 case atStart => exact ⟨0, _, _, _, rfl, Nat.zero_le _, HKI, Lib.hid (Chg.refl _ _)⟩
 case round =>
  obtain ⟨j, cur, aa, cc, rfl, hj, HI, HC⟩ := hrel
  have hszr := HC.out.size
  by_cases hlt : j < n
  ·obtain ⟨b, off, rfl, ⟨hb1, hb2⟩, hcc⟩ := HP0.out.pos (by omega)
   have e0 := hcc _ _ (ints_get (par l) j (by omega))
   replace e0 := HC.out.keep e0 (by omega)
   have hbd := par_bd l j (by omega)
   have HX : Hid ((par l).take (j + 1) = (par l).take j ++ [(par l)[j]'(by omega)]) := Lib.hid (List.take_succ_eq_append_getElem (by omega))
   generalize (par l)[j]'(by omega) = p at *
   clear hcc
   by_cases hp : 0 ≤ p
   ·obtain ⟨q, rfl⟩ : ∃ q : Nat, p = (q : Int) := ⟨p.toNat, by omega⟩
    have hq : q < n := by omega
    have hr3 : Rw wr (w.heap.size + 1) #[.slice a n cap, .slice (some ⟨w.heap.size, 0, none⟩) n n] 107 := R3.out.chg HC.out (by omega)
    have hkq : wr.cell? ⟨w.heap.size, q, none⟩ = some (.slice (aa q) (kidsOf ((par l).take j) q).length (cc q)) := (HI.out.row.cell q).trans (HI.out.at' q hq)
    have hkl : (kidsOf ((par l).take j) q).length ≤ 1000 := by have := kidsOf_len ((par l).take j) q; rw [List.length_take] at this; omega
    have HOQ := Lib.hid (HI.out.own q hq)
    generalize hKq : kidsOf ((par l).take j) (q : Int) = Kq at hkq hkl HOQ
    have HKQ := Lib.hid hKq; clear hKq
    go_wp2_with fail
    refine wp_region_F (fun w' => Rw w' (w.heap.size + 1) #[.slice a n cap, .slice (some ⟨w.heap.size, 0, none⟩) n n] 107 ∧ w'.cell? ⟨w.heap.size, q, none⟩ = some (.slice (aa q) Kq.length (cc q))) [16] (by kernel_rfl) ?g1rgS (fun hHeld => ?g1rgR)
    case g1rgS => (try dsimp only); (first | exact ⟨hr3.drew, hkq⟩ | exact ⟨hHeld.1.alloc _, cb (ba (b0 _) _) hHeld.2⟩ | exact ⟨hHeld.1.chg hc5 (by rintro ⟨_, h, _⟩; omega), hc5.keep hHeld.2 (by rintro ⟨_, h, _⟩; omega)⟩)
    try dsimp only at hHeld
    refine wpAnyF_take 0 (oi := ⟨some 22, .move (.tmp 3), 91, "tree.go:26", #[], none⟩) (v := ?g1rv1) rfl (by kernel_rfl) (fun _ _ _ h => h) (by assumption) (by rfl) ?g1ry1 ?g1rr1
    case g1ry1 => intro wS hSw; (obtain ⟨g1, g2⟩ := hSw); (have q1 : wS.cell? ⟨w.heap.size + 1, 1, none⟩ = some (.slice (some ⟨w.heap.size, 0, none⟩) n n) := g1.cell 1); go_simp; try with_reducible rfl
    try simp only [Act.put, pA, pB, pC]
    refine wpAnyF_take 1 (oi := ⟨some 23, .nilCheck (.tmp 22), 0, "tree.go:26", #[⟨0, .data⟩], none⟩) (v := ?g1rv2) rfl (by kernel_rfl) (fun _ _ _ h => h) (by assumption) (by rfl) ?g1ry2 ?g1rr2
    case g1ry2 => intro wS hSw; (obtain ⟨g1, g2⟩ := hSw); (have q1 : wS.cell? ⟨w.heap.size + 1, 1, none⟩ = some (.slice (some ⟨w.heap.size, 0, none⟩) n n) := g1.cell 1); go_simp; try with_reducible rfl
    try simp only [Act.put, pA, pB, pC]
    refine wpAnyF_take 2 (oi := ⟨some 24, .fieldAddr 107 (.tmp 23) 1, 0, "tree.go:26", #[⟨1, .data⟩], none⟩) (v := ?g1rv3) rfl (by kernel_rfl) (fun _ _ _ h => h) (by assumption) (by rfl) ?g1ry3 ?g1rr3
    case g1ry3 => intro wS hSw; (obtain ⟨g1, g2⟩ := hSw); (have q1 : wS.cell? ⟨w.heap.size + 1, 1, none⟩ = some (.slice (some ⟨w.heap.size, 0, none⟩) n n) := g1.cell 1); go_simp; try with_reducible rfl
    try simp only [Act.put, pA, pB, pC]
    refine wpAnyF_take 3 (oi := ⟨some 25, .load 23 (.tmp 24), 23, "tree.go:26", #[⟨2, .data⟩], none⟩) (v := ?g1rv4) rfl (by kernel_rfl) (fun _ _ _ h => h) (by assumption) (by rfl) ?g1ry4 ?g1rr4
    case g1ry4 => intro wS hSw; (obtain ⟨g1, g2⟩ := hSw); (have q1 : wS.cell? ⟨w.heap.size + 1, 1, none⟩ = some (.slice (some ⟨w.heap.size, 0, none⟩) n n) := g1.cell 1); go_simp; try with_reducible rfl
    try simp only [Act.put, pA, pB, pC]
    refine wpAnyF_take 4 (oi := ⟨some 26, .move (.tmp 5), 3, "tree.go:26", #[], none⟩) (v := ?g1rv5) rfl (by kernel_rfl) (fun _ _ _ h => h) (by assumption) (by rfl) ?g1ry5 ?g1rr5
    case g1ry5 => intro wS hSw; (obtain ⟨g1, g2⟩ := hSw); (have q1 : wS.cell? ⟨w.heap.size + 1, 1, none⟩ = some (.slice (some ⟨w.heap.size, 0, none⟩) n n) := g1.cell 1); go_simp; try with_reducible rfl
    try simp only [Act.put, pA, pB, pC]
    refine wpAnyF_take 5 (oi := ⟨some 27, .move (.tmp 3), 91, "tree.go:26", #[], none⟩) (v := ?g1rv6) rfl (by kernel_rfl) (fun _ _ _ h => h) (by assumption) (by rfl) ?g1ry6 ?g1rr6
    case g1ry6 => intro wS hSw; (obtain ⟨g1, g2⟩ := hSw); (have q1 : wS.cell? ⟨w.heap.size + 1, 1, none⟩ = some (.slice (some ⟨w.heap.size, 0, none⟩) n n) := g1.cell 1); go_simp; try with_reducible rfl
    try simp only [Act.put, pA, pB, pC]
    refine wpAnyF_take 6 (oi := ⟨some 28, .nilCheck (.tmp 27), 0, "tree.go:26", #[⟨5, .data⟩], none⟩) (v := ?g1rv7) rfl (by kernel_rfl) (fun _ _ _ h => h) (by assumption) (by rfl) ?g1ry7 ?g1rr7
    case g1ry7 => intro wS hSw; (obtain ⟨g1, g2⟩ := hSw); (have q1 : wS.cell? ⟨w.heap.size + 1, 1, none⟩ = some (.slice (some ⟨w.heap.size, 0, none⟩) n n) := g1.cell 1); go_simp; try with_reducible rfl
    try simp only [Act.put, pA, pB, pC]
    refine wpAnyF_take 7 (oi := ⟨some 29, .fieldAddr 107 (.tmp 28) 1, 0, "tree.go:26", #[⟨6, .data⟩], none⟩) (v := ?g1rv8) rfl (by kernel_rfl) (fun _ _ _ h => h) (by assumption) (by rfl) ?g1ry8 ?g1rr8
    case g1ry8 => intro wS hSw; (obtain ⟨g1, g2⟩ := hSw); (have q1 : wS.cell? ⟨w.heap.size + 1, 1, none⟩ = some (.slice (some ⟨w.heap.size, 0, none⟩) n n) := g1.cell 1); go_simp; try with_reducible rfl
    try simp only [Act.put, pA, pB, pC]
    refine wpAnyF_take 8 (oi := ⟨some 30, .load 23 (.tmp 29), 23, "tree.go:26", #[⟨7, .data⟩], none⟩) (v := ?g1rv9) rfl (by kernel_rfl) (fun _ _ _ h => h) (by assumption) (by rfl) ?g1ry9 ?g1rr9
    case g1ry9 => intro wS hSw; (obtain ⟨g1, g2⟩ := hSw); (have q1 : wS.cell? ⟨w.heap.size + 1, 1, none⟩ = some (.slice (some ⟨w.heap.size, 0, none⟩) n n) := g1.cell 1); go_simp; try with_reducible rfl
    try simp only [Act.put, pA, pB, pC]
    refine wpAnyF_take 9 (oi := ⟨some 31, .move (.tmp 5), 3, "tree.go:26", #[], none⟩) (v := ?g1rv10) rfl (by kernel_rfl) (fun _ _ _ h => h) (by assumption) (by rfl) ?g1ry10 ?g1rr10
    case g1ry10 => intro wS hSw; (obtain ⟨g1, g2⟩ := hSw); (have q1 : wS.cell? ⟨w.heap.size + 1, 1, none⟩ = some (.slice (some ⟨w.heap.size, 0, none⟩) n n) := g1.cell 1); go_simp; try with_reducible rfl
    try simp only [Act.put, pA, pB, pC]
    refine wpAnyF_take 10 (oi := ⟨some 32, .indexAddr 23 (.tmp 30) (.tmp 31), 0, "tree.go:26", #[⟨8, .data⟩, ⟨9, .data⟩], none⟩) (v := ?g1rv11) rfl (by kernel_rfl) (fun _ _ _ h => h) (by assumption) (by rfl) ?g1ry11 ?g1rr11
    case g1ry11 => intro wS hSw; (obtain ⟨g1, g2⟩ := hSw); (have q1 : wS.cell? ⟨w.heap.size + 1, 1, none⟩ = some (.slice (some ⟨w.heap.size, 0, none⟩) n n) := g1.cell 1); go_simp; try with_reducible rfl
    try simp only [Act.put, pA, pB, pC]
    refine wpAnyF_take 11 (oi := ⟨some 33, .load 22 (.tmp 32), 22, "tree.go:26", #[⟨10, .data⟩], none⟩) (v := ?g1rv12) rfl (by kernel_rfl) (fun _ _ _ h => h) (by assumption) (by rfl) ?g1ry12 ?g1rr12
    case g1ry12 => intro wS hSw; (obtain ⟨g1, g2⟩ := hSw); (have q1 : wS.cell? ⟨w.heap.size + 1, 1, none⟩ = some (.slice (some ⟨w.heap.size, 0, none⟩) n n) := g1.cell 1); go_simp; try with_reducible rfl
    try simp only [Act.put, pA, pB, pC]
    refine wpAnyF_take 12 (oi := ⟨some 34, .move (.tmp 4), 3, "tree.go:26", #[], none⟩) (v := ?g1rv13) rfl (by kernel_rfl) (fun _ _ _ h => h) (by assumption) (by rfl) ?g1ry13 ?g1rr13
    case g1ry13 => intro wS hSw; (obtain ⟨g1, g2⟩ := hSw); (have q1 : wS.cell? ⟨w.heap.size + 1, 1, none⟩ = some (.slice (some ⟨w.heap.size, 0, none⟩) n n) := g1.cell 1); go_simp; try with_reducible rfl
    try simp only [Act.put, pA, pB, pC]
    refine wpAnyF_ready [13] (by kernel_rfl) (by simp) ?_
    refine AllReadyF.cons 13 (o := ⟨some 35, .buildSlice 22 1 #[(0, .tmp 34)], 22, "tree.go:26", #[⟨12, .data⟩], none⟩) rfl (fun K hK => ?g1ro14) ?g1rm14
    case g1rm14 => exact AllReadyF.nil
    go_simp
    refine hK.out _ _ ?g1rs14 (fun hHeld => ?g1rt14)
    case g1rs14 => (try dsimp only); (first | exact ⟨hr3.drew, hkq⟩ | exact ⟨hHeld.1.alloc _, cb (ba (b0 _) _) hHeld.2⟩ | exact ⟨hHeld.1.chg hc5 (by rintro ⟨_, h, _⟩; omega), hc5.keep hHeld.2 (by rintro ⟨_, h, _⟩; omega)⟩)
    try dsimp only at hHeld
    clear hK K
    try simp only [Act.put, pA, pB, pC]
    refine wpAnyF_ready [14] (by kernel_rfl) (by simp) ?_
    refine AllReadyF.cons 14 (o := ⟨some 36, .call { callee := .builtin .append, args := #[.tmp 33, .tmp 35], argTypes := #[22, 22] }, 22, "tree.go:26", #[⟨11, .data⟩, ⟨13, .data⟩], none⟩) rfl (fun K hK => ?g1ro15) ?g1rm15
    case g1rm15 => exact AllReadyF.nil
    (refine step_append (B := w2.heap.size) rfl _ _ _ _ rfl ii (.int .i64 0) 8 Try.underlying22 hii hz0i hz1i hz2i rfl rfl (HOQ.out.drew.alloc _) _ rfl _ _ (src_rw (e' := 3) Try.underlying22 (cur := #[.int .i64 (j : Int)]) (t := 3) (by refine Rw.new' ?_; simp) 1 1 (by rfl) (by simp [Value.oneCell'])) (by simp only [maxLen]; omega) (by omega) (by first | omega | (simp; omega) | simp) ?_; intro a5 cap5 w5 ho5 hc5 hn5)
    refine hK.out _ _ ?g1rs15 (fun hHeld => ?g1rt15)
    case g1rs15 => (try dsimp only); (first | exact ⟨hr3.drew, hkq⟩ | exact ⟨hHeld.1.alloc _, cb (ba (b0 _) _) hHeld.2⟩ | exact ⟨hHeld.1.chg hc5 (by rintro ⟨_, h, _⟩; omega), hc5.keep hHeld.2 (by rintro ⟨_, h, _⟩; omega)⟩)
    try dsimp only at hHeld
    clear hK K
    try simp only [Act.put, pA, pB, pC]
    refine wpAnyF_take 15 (oi := ⟨some 37, .indexAddr 23 (.tmp 25) (.tmp 26), 0, "tree.go:26", #[⟨3, .data⟩, ⟨4, .data⟩, ⟨0, .phase⟩, ⟨1, .phase⟩, ⟨2, .phase⟩, ⟨3, .phase⟩, ⟨4, .phase⟩, ⟨5, .phase⟩, ⟨6, .phase⟩, ⟨7, .phase⟩, ⟨8, .phase⟩, ⟨9, .phase⟩, ⟨10, .phase⟩, ⟨11, .phase⟩, ⟨12, .phase⟩, ⟨13, .phase⟩, ⟨14, .phase⟩], none⟩) (v := ?g1rv16) rfl (by kernel_rfl) (fun _ _ _ h => h) (by assumption) (by rfl) ?g1ry16 ?g1rr16
    case g1ry16 => intro wS hSw; (obtain ⟨g1, g2⟩ := hSw); (have q1 : wS.cell? ⟨w.heap.size + 1, 1, none⟩ = some (.slice (some ⟨w.heap.size, 0, none⟩) n n) := g1.cell 1); go_simp; try with_reducible rfl
    try simp only [Act.put, pA, pB, pC]
    refine wpAnyF_ready [16] (by kernel_rfl) (by simp) ?_
    refine AllReadyF.last 16 (o := ⟨none, .store 22 (.tmp 37) (.tmp 36), 0, "tree.go:26", #[⟨15, .data⟩, ⟨14, .data⟩, ⟨14, .chain⟩, ⟨0, .phase⟩, ⟨1, .phase⟩, ⟨2, .phase⟩, ⟨3, .phase⟩, ⟨4, .phase⟩, ⟨5, .phase⟩, ⟨6, .phase⟩, ⟨7, .phase⟩, ⟨8, .phase⟩, ⟨9, .phase⟩, ⟨10, .phase⟩, ⟨11, .phase⟩, ⟨12, .phase⟩, ⟨13, .phase⟩, ⟨14, .phase⟩], none⟩) rfl (by kernel_rfl) (fun K hK => ?g1ro17) ?g1rm17
    case g1rm17 => exact AllReadyF.nil
    (have q5 : w5.cell? ⟨w.heap.size, q, none⟩ = some (.slice (aa q) Kq.length (cc q)) := hHeld.2); (have qrow : Rw w5 w.heap.size cur 22 := ((HI.out.row.drew.alloc _).chg hc5 (by rintro ⟨_, h, _⟩; omega))); (have qf := qrow.frozen); (have ql := qrow.lt); go_simp
    refine hK.out _ _ ?_
    clear hK K
    try simp only [Act.put, pA, pB, pC]
    refine wpAnyF_done (by kernel_rfl) ?_
    have HKI5 := Lib.hid ((HI.out.below (((b0 wr).drew.alloc (by simp) (.cells #[.int .i64 (j : Int)] 3)))).push q hq (x := (j : Int)) (by omega) (by rw [HKQ.out, ints_snoc]; exact ho5) hc5 hn5)
    have HC5 := Lib.hid ((((HC.out.drew.alloc (.cells #[.int .i64 (j : Int)] 3)).trans hc5 (S' := fun k => blk (aa q) k ∧ w2.heap.size ≤ k ∧ 0 < cc q) (fun k _ h => .inr h.2.1))).setCell (p := ⟨w.heap.size, q, none⟩) (.inr (.inl rfl)) (.slice a5 (Kq.length + 1) cap5))
    clear ho5 hc5 hn5 hHeld
    go_wp2_with fail
    go_roundw
    case rel =>
     have h := HKI5.out
     rw [HKQ.out] at h
     have e : (fun (k : Nat) => kidsOf ((par l).take (j + 1)) k) = fun k => if k = q then Kq ++ [(j : Int)] else kidsOf ((par l).take j) k := by
      funext k
      rw [HX.out, kidsOf_snoc, List.length_take, show min j (par l).length = j by omega]
      by_cases hk : k = q
      ·subst hk; simp [HKQ.out]
      ·have : ¬ ((q : Int) = (k : Int)) := by omega
       simp [hk, this]
     rw [← e] at h
     exact ⟨j + 1, _, _, _, by go_num, by omega, Lib.hid h, HC5⟩
    case measure => simp [intOf]; omega
   ·have hpf : (decide (0 ≤ p)) = false := decide_eq_false hp
    have e : (fun (k : Nat) => kidsOf ((par l).take (j + 1)) k) = fun (k : Nat) => kidsOf ((par l).take j) k := by
     funext k
     rw [HX.out, kidsOf_snoc]
     have : ¬ (p = (k : Int)) := by omega
     simp [this]
    have HE := Lib.hid e; clear e
    clear hp
    go_wp2_with fail
    go_roundw
    case rel => exact ⟨j + 1, cur, aa, cc, by go_num, by omega, Lib.hid (by rw [HE.out]; exact HI.out), HC⟩
    case measure => simp [intOf]; omega
  ·obtain rfl : j = n := by omega
   clear hlt
   go_wp2_with fail
   go_ret
   have hr3 : Rw wr (w.heap.size + 1) #[.slice a j cap, .slice (some ⟨w.heap.size, 0, none⟩) j j] 107 := R3.out.chg HC.out (by omega)
   have hB : Below w.heap.size w wr := Chg.bt HBA.out HC.out (fun i hi h => by omega)
   have hk := HI.out.kids
   rw [List.take_of_length_le (by omega)] at hk
   exact ⟨w.heap.size + 1, rfl, ⟨_, j, cap, w.heap.size, hlen.symm, hr3, HSS.out.chg' HC.out (fun k hk => ⟨by omega, by omega⟩), hk⟩, hB⟩
end Go.Proofs.Ytibhcibcfommeaa
