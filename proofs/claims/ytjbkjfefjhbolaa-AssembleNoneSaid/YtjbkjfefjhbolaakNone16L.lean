import Derived.Test.YtjbkjfefjhbolaakKnown16
import Derived.Test.YtjbkjfefjhbolaakWith16
set_option linter.unusedSimpArgs false
set_option linter.unusedVariables false
namespace Go.Proofs.Ytjbkjfefjhbolaa
open Go.RowKit Go.Shr
def nL : List Fl := [⟨⟨#[109]⟩, 0, 0, 1⟩, ⟨⟨#[103]⟩, 1, 0, 1⟩, ⟨⟨#[97]⟩, 1, 2, 0⟩]
def nSh : Sh := .mk ⟨#[109]⟩ 0 0 [.mk ⟨#[103]⟩ 1 0 [.mk ⟨#[97]⟩ 1 2 []]]
theorem n_sch : Sch nL nSh := ⟨by simp [nL, nSh, flat, flatL], by simp [nSh, GoodS, GoodL], rfl, by simp [nSh, Sh.size, shSizes]⟩
theorem n_nms : Nms nL := by
 refine ⟨fun f hf => ?_, by decide⟩
 simp only [nL, List.mem_cons, List.not_mem_nil, or_false] at hf
 rcases hf with rfl | rfl | rfl
 ·exact ⟨109, rfl, by decide, by decide⟩
 ·exact ⟨103, rfl, by decide, by decide⟩
 ·exact ⟨97, rfl, by decide, by decide⟩
theorem n_wy : Wy nL (wayAt nSh) := Wy.mk' n_sch (by decide) n_nms
theorem n_rep : ∀ x ∈ nL, x.rep = 0 ∨ x.rep = 1 ∨ x.rep = 2 := by simp [nL]
theorem n_leafs : leafs nL nL.length = [2] := by decide
theorem n_par : par nL = [-1, 0, 1] := by simp [par, nL, parF, parS, popS, nextS]
theorem n_lvD : lvD nL 2 = 2 := by
 unfold lvD
 rw [n_par]
 have h0 : Go.Shr.chain [-1, 0, 1] 0 = [0] := by rw [Go.Shr.chain]; simp
 have h1 : Go.Shr.chain [-1, 0, 1] 1 = [1, 0] := by rw [Go.Shr.chain]; simp [h0]
 have h2 : Go.Shr.chain [-1, 0, 1] 2 = [2, 1, 0] := by rw [Go.Shr.chain]; simp [h1]
 rw [h2]
 decide
theorem n_KF0 : KF nL 0 = [1] := by unfold KF; rw [n_par, show ([-1, 0, 1] : List Int) = [-1, 0] ++ [1] from rfl, kidsOf_snoc, kidsOf_two]; simp
theorem n_KF1 : KF nL 1 = [2] := by
 unfold KF
 rw [n_par, show ([-1, 0, 1] : List Int) = [-1, 0] ++ [1] from rfl, kidsOf_snoc, show ([-1, 0] : List Int) = [-1] ++ [0] from rfl, kidsOf_snoc, show ([-1] : List Int) = [] ++ [-1] from rfl, kidsOf_snoc, kidsOf_nil]
 simp
theorem n_grp {i j : Int} {x : List Tr} (hk : (flAt nL i).kind = 0) (hK : KF nL i = [j]) (hA : fitA nL (KF nL) x j = 0) : fitT nL (KF nL) (.mk 0 ByteArray.empty [x]) i = 0 := by
 have he : ByteArray.empty.toList = [] := by rw [ByteArray.toList_eq]; rfl
 have hF : fitK nL (KF nL) [x] [j] = 0 := by
  rw [fitK_cons, List.headD_cons, if_neg (fun c => c hA)]
  simp [fitK]
 rw [fitT_eq, hK, if_neg (fun c => c hk), if_neg (by simp [Tr.n, Tr.s, Tr.kids, he])]
 exact hF
theorem n_nil {i : Int} (h : (flAt nL i).rep = 1) : fitA nL (KF nL) [] i = 0 := by
 unfold fitA
 rw [h]
 simp [repT, fitX]
/-- The record whose leaf is not there, d groups deep. -/
def nT (d : Nat) : Tr := if d = 0 then .mk 0 ByteArray.empty [[]] else .mk 0 ByteArray.empty [[.mk 0 ByteArray.empty [[]]]]
theorem n_cell (d : Nat) (hd : d < 2) : valC 2 0 0 0 0 nSh (nT d) = [⟨0, d, none⟩] := by
 have : d = 0 ∨ d = 1 := by omega
 rcases this with rfl | rfl
 ·simp [nT, nSh, valC, kidC, fldX, noneC, Tr.kids, Sh.size, shSizes]
 ·simp [nT, nSh, valC, kidC, fldX, noneC, Tr.kids, Sh.size, shSizes, dmI, Sh.rep]
theorem n_rows (d : Nat) (hd : d < 2) (n : Nat) : rowsC 2 nSh (List.replicate n (nT d)) = List.replicate n ⟨0, d, none⟩ := by
 induction n with
 | zero => simp [rowsC]
 | succ n ih =>
  unfold rowsC at ih ⊢
  rw [List.replicate_succ, List.flatMap_cons, ih, n_cell d hd, List.replicate_succ]; rfl
theorem n_fit (d : Nat) (hd : d < 2) : fitT nL (KF nL) (nT d) 0 = 0 := by
 have : d = 0 ∨ d = 1 := by omega
 rcases this with rfl | rfl
 ·exact n_grp rfl n_KF0 (n_nil rfl)
 ·refine n_grp rfl n_KF0 ?_
  have h := n_grp rfl n_KF1 (n_nil (i := 2) rfl)
  unfold fitA
  rw [if_neg (by decide)]
  unfold fitX
  rw [if_neg (fun c => c h)]
  simp [fitX]
theorem n_good (d : Nat) (hd : d < 2) (n : Nat) (hn : n ≤ 50) : Good nL nSh [⟨List.replicate n 0, List.replicate n (d : Int), []⟩] n (List.replicate n (nT d)) := by
 have hE : colsE nL nSh (List.replicate n (nT d)) = 0 := by
  unfold colsE
  rw [if_neg (by simp; omega)]
  have hf : firstE ((List.replicate n (nT d)).map fun t => fitT nL (KF nL) t 0) = 0 := firstE_zero.2 (fun e he => by
   obtain ⟨t, ht, rfl⟩ := List.mem_map.1 he
   rw [(List.mem_replicate.1 ht).2]
   exact n_fit d hd)
  rw [if_neg (fun c => c hf), if_neg]
  rw [n_leafs]
  simp [manyC, n_rows d hd]
  omega
 refine ⟨hE, ?_, by simp⟩
 rw [colsL, if_pos hE]
 simp [clsC, n_leafs, clC, n_rows d hd, celV, List.filterMap_replicate]
theorem n_not (d : Nat) (hd : d < 2) (n : Nat) (v : Vc) (x : List Tr) : ¬ Good nL nSh [⟨List.replicate n 0, List.replicate n (d : Int), [v]⟩] n x := by
 intro h
 have hw := rows_whole n_sch rfl (lf := 2) (by decide) (by decide) (h.fs n_sch)
 have h2 := h.2.1
 rw [colsL, if_pos h.1] at h2
 simp [clsC, n_leafs, clC] at h2
 obtain ⟨_, h3, h4⟩ := h2
 have : celV (rowsC 2 nSh x) = [] := by
  unfold celV
  refine List.filterMap_eq_nil_iff.2 (fun c hc => ?_)
  have h5 := (hw c hc)
  rw [n_lvD] at h5
  have h6 : (c.d : Int) ∈ List.replicate n (d : Int) := by rw [← h3]; exact List.mem_map.2 ⟨c, hc, rfl⟩
  have h7 := (List.mem_replicate.1 h6).2
  cases hv : c.v with
  | none => rfl
  | some u => rw [hv] at h5; have := h5.2 rfl; omega
 rw [this] at h4
 cases h4
end Go.Proofs.Ytjbkjfefjhbolaa
namespace Go.Proofs.Ytjbkjfefjhbolaa
open Go.RowKit Go.Shr
/-- A column that is being written, cell by cell; no values. -/
structure NQ (B bc : Nat) (cur : Array Value) (aR : Option Addr) (nR cR : Nat) (xR : List Value) (aD : Option Addr) (nD cD : Nat) (xD : List Value) (w : World) : Prop where
 row : Rw w bc cur 42
 oR : Own B w 3 1 aR nR cR xR
 oD : Own B w 3 1 aD nD cD xD
 dis : ∀ g, blk aR g → ¬ blk aD g
 lt : ∀ g, blk aR g ∨ blk aD g → g < w.heap.size
 bb : bc < B
 le : B ≤ w.heap.size
section
variable {B bc : Nat} {cur : Array Value} {aR aD : Option Addr} {nR cR nD cD : Nat} {xR xD : List Value} {w w' : World}
theorem NQ.below (h : NQ B bc cur aR nR cR xR aD nD cD xD w) (hb : Below w.heap.size w w') : NQ B bc cur aR nR cR xR aD nD cD xD w' :=
 ⟨h.row.below hb, h.oR.below hb, h.oD.below hb, h.dis, fun g hg => Nat.lt_of_lt_of_le (h.lt g hg) hb.size, h.bb, Nat.le_trans h.le hb.size⟩
theorem NQ.pushR (h : NQ B bc cur aR nR cR xR aD nD cD xD w) {a' : Option Addr} {n' c' : Nat} {x' : List Value} (hn0 : 0 < n') (ho : Own B w' 3 1 a' n' c' x') (hc : Chg (fun g => blk aR g ∧ B ≤ g ∧ 0 < cR) w w') (hn : ∀ g, blk a' g → blk aR g ∨ w.heap.size ≤ g) : NQ B bc cur a' n' c' x' aD nD cD xD w' := by
 obtain ⟨g0, rfl, hg1, hg2, _⟩ := ho.pos hn0
 refine ⟨h.row.chg hc (fun k => by have := k.2.1; have := h.bb; omega), ho, h.oD.chg hc (fun k hk k2 => h.dis k k2.1 hk), fun g hg hd => ?_, fun g hg => ?_, h.bb, Nat.le_trans h.le hc.size⟩
 ·rcases hn g hg with k | k
  ·exact h.dis g k hd
  ·exact absurd (h.lt g (.inr hd)) (by omega)
 ·rcases hg with k | k
  ·obtain ⟨o, s, e⟩ := k
   simp only [Option.some.injEq, Addr.mk.injEq] at e
   rw [← e.1]; exact hg2
  ·exact Nat.lt_of_lt_of_le (h.lt g (.inr k)) hc.size
theorem NQ.pushD (h : NQ B bc cur aR nR cR xR aD nD cD xD w) {a' : Option Addr} {n' c' : Nat} {x' : List Value} (hn0 : 0 < n') (ho : Own B w' 3 1 a' n' c' x') (hc : Chg (fun g => blk aD g ∧ B ≤ g ∧ 0 < cD) w w') (hn : ∀ g, blk a' g → blk aD g ∨ w.heap.size ≤ g) : NQ B bc cur aR nR cR xR a' n' c' x' w' := by
 obtain ⟨g0, rfl, hg1, hg2, _⟩ := ho.pos hn0
 refine ⟨h.row.chg hc (fun k => by have := k.2.1; have := h.bb; omega), h.oR.chg hc (fun k hk k2 => h.dis k hk k2.1), ho, fun g hg hd => ?_, fun g hg => ?_, h.bb, Nat.le_trans h.le hc.size⟩
 ·rcases hn g hd with k | k
  ·exact h.dis g hg k
  ·exact absurd (h.lt g (.inl hg)) (by omega)
 ·rcases hg with k | k
  ·exact Nat.lt_of_lt_of_le (h.lt g (.inl k)) hc.size
  ·obtain ⟨o, s, e⟩ := k
   simp only [Option.some.injEq, Addr.mk.injEq] at e
   rw [← e.1]; exact hg2
theorem NQ.nb (_ : NQ B bc cur aR nR cR xR aD nD cD xD w) {o : Obj} {X : World} (hX : X = w.alloc o) : Below w.heap.size w X := by rw [hX]; exact ba (b0 w) _
theorem NQ.nr (_ : NQ B bc cur aR nR cR xR aD nD cD xD w) {c : Array Value} {t : TypeId} {X : World} (hX : X = w.alloc (.cells c t)) : Rw X w.heap.size c t := by rw [hX]; exact Rw.new w _ _
theorem NQ.cell2 (h : NQ B bc cur aR nR cR xR aD nD cD xD w) (v0 v1 : Value) : NQ B bc ((cur.setIfInBounds 0 v0).setIfInBounds 1 v1) aR nR cR xR aD nD cD xD ((w.setCell ⟨bc, 0, none⟩ v0).setCell ⟨bc, 1, none⟩ v1) :=
 ⟨(h.row.set _ _).set _ _, (h.oR.setBelow h.bb _).setBelow h.bb _, (h.oD.setBelow h.bb _).setBelow h.bb _, h.dis, fun g hg => by simpa using h.lt g hg, h.bb, by simpa using h.le⟩
end
theorem NQ.cellV {B bc : Nat} {aR aD : Option Addr} {nR cR nD cD : Nat} {xR xD : List Value} {w : World} {v0 v1 v2 : Value} (h : NQ B bc #[v0, v1, v2] aR nR cR xR aD nD cD xD w) (u : Value) : NQ B bc #[v0, v1, u] aR nR cR xR aD nD cD xD (w.setCell ⟨bc, 2, none⟩ u) :=
 ⟨h.row.set 2 u, h.oR.setBelow h.bb _, h.oD.setBelow h.bb _, h.dis, fun g hg => by simpa using h.lt g hg, h.bb, by simpa using h.le⟩
/-- i cells are written. -/
def NS (B bc d i : Nat) (aR aD : Option Addr) (cR cD : Nat) (w : World) : Prop := NQ B bc #[.slice aR i cR, .slice aD i cD, .slice none 0 0] aR i cR (ints (List.replicate i 0)) aD i cD (ints (List.replicate i (d : Int))) w
/-- What stands in memory of one of the records. -/
theorem n_elem {d : Nat} (hd : d < 2) {i : Nat} {ok : Nat → Prop} {w : World} {xa : Option Addr} {xc : Nat} {ys : List Value} (hs : Sl ok w 3 xa (List.replicate i (nT d)).length xc ys) (hr : RowG ok w (List.replicate i (nT d)) ys) {j : Nat} (hj : j < i) :
  ∃ xb xo, xa = some ⟨xb, xo, none⟩ ∧ ∃ kb ko kc, w.cell? ⟨xb, xo + j * 3 + 2, none⟩ = some (.slice (some ⟨kb, ko, none⟩) 1 kc) ∧
   ((d = 0 ∧ ∃ ga gc, w.cell? ⟨kb, ko, none⟩ = some (.slice ga 0 gc)) ∨ (d = 1 ∧ ∃ gb go gc, w.cell? ⟨kb, ko, none⟩ = some (.slice (some ⟨gb, go, none⟩) 1 gc) ∧ ∃ hb ho hc, w.cell? ⟨gb, go + 2, none⟩ = some (.slice (some ⟨hb, ho, none⟩) 1 hc) ∧ ∃ za zc, w.cell? ⟨hb, ho, none⟩ = some (.slice za 0 zc))) := by
 obtain ⟨xb, xo, rfl, _, hc⟩ := hs.pos (by simp; omega)
 obtain ⟨e0, e1, e2, _, _, u2, ht⟩ := hr.get' j (by simpa using hj)
 rw [List.getElem_replicate] at ht
 refine ⟨xb, xo, rfl, ?_⟩
 have g2 := hc _ _ u2
 rw [← Nat.add_assoc] at g2
 have h01 : d = 0 ∨ d = 1 := by omega
 rcases h01 with rfl | rfl
 ·simp only [nT, if_pos, TrG, KidG, RowG] at ht
  obtain ⟨a, m, cap, xs, h1, _, h2, a2, m2, c2, y2, xr, rfl, rfl, h3, rfl, rfl⟩ := ht
  simp at h1
  obtain ⟨_, _, rfl⟩ := h1
  have hm : m = 1 := by simpa using h2.len.symm
  subst hm
  obtain ⟨kb, ko, rfl, _, hk⟩ := h2.pos (by decide)
  exact ⟨kb, ko, cap, g2, .inl ⟨rfl, a2, c2, by simpa using hk 0 _ rfl⟩⟩
 ·simp only [nT, Nat.one_ne_zero, if_neg, not_false_eq_true, TrG, KidG, RowG] at ht
  obtain ⟨a, m, cap, xs, h1, _, h2, a2, m2, c2, y2, xr, rfl, rfl, h3, ⟨c0, c1, c2', yr, rfl, ⟨a4, m4, cap4, xs4, h4, _, h5, a6, m6, c6, y6, xr6, rfl, rfl, h7, rfl, rfl⟩, rfl⟩, rfl⟩ := ht
  simp at h1 h4
  obtain ⟨_, _, rfl⟩ := h1
  obtain ⟨_, _, rfl⟩ := h4
  have hm : m = 1 := by simpa using h2.len.symm
  have hm4 : m4 = 1 := by simpa using h5.len.symm
  subst hm; subst hm4
  obtain ⟨kb, ko, rfl, _, hk⟩ := h2.pos (by decide)
  obtain ⟨gb, go, rfl, _, hg⟩ := h3.pos (by simp)
  obtain ⟨hb, ho, rfl, _, hh⟩ := h5.pos (by decide)
  exact ⟨kb, ko, cap, g2, .inr ⟨rfl, gb, go, c2, by simpa using hk 0 _ rfl, hb, ho, cap4, hg 2 _ rfl, a6, c6, by simpa using hh 0 _ rfl⟩⟩
set_option maxHeartbeats 1000000 in
set_option maxRecDepth 100000 in
theorem law_none (n0 d0 : Int) (w : World) (w0 : (Lit.int .i64 n0).wf = true) (w1 : (Lit.int .i64 d0).wf = true) :
  Calls Try.prog 8 #[.int .i64 n0, .int .i64 d0] w fun e w' => e = .returned (.bool true) ∧ Below w.heap.size w w' := by
 clear w0 w1
 obtain ⟨ii, hii, hz0i, hz1i, hz2i⟩ := info_parts info_i
 go_enter Try.func8, Try.ntmps8
 go_wp2_with fail
 refine (known16 _).mono ?_
 rintro e w1 ⟨rfl, hb1⟩
 have HB1 := Lib.hid hb1; clear hb1
 go_wp2_with fail
 refine (within_16 n0 50 w1 (by decide) (by decide)).mono ?_
 rintro e w2 ⟨rfl, rfl⟩
 obtain ⟨n, hn⟩ : ∃ n : Nat, (n : Int) = n0 % 50 := ⟨(n0 % 50).toNat, by have := Int.emod_nonneg n0 (show (50 : Int) ≠ 0 by decide); omega⟩
 have hn50 : n ≤ 50 := by have := Int.emod_lt_of_pos n0 (show (0 : Int) < 50 by decide); omega
 rw [← hn]
 clear hn
 go_upto_region 4 with fail
 go_upto_region 5 with fail
 have r1 := Rw.new w1 #[.string ⟨#[109]⟩, .int .i64 0, .int .i64 0, .int .i64 1, .string ⟨#[103]⟩, .int .i64 1, .int .i64 0, .int .i64 1, .string ⟨#[97]⟩, .int .i64 1, .int .i64 2, .int .i64 0] 62
 have hb1 := ba (b0 w1) (.cells #[.string ⟨#[109]⟩, .int .i64 0, .int .i64 0, .int .i64 1, .string ⟨#[103]⟩, .int .i64 1, .int .i64 0, .int .i64 1, .string ⟨#[97]⟩, .int .i64 1, .int .i64 2, .int .i64 0] 62)
 have hz1 : (w1.alloc (.cells #[.string ⟨#[109]⟩, .int .i64 0, .int .i64 0, .int .i64 1, .string ⟨#[103]⟩, .int .i64 1, .int .i64 0, .int .i64 1, .string ⟨#[97]⟩, .int .i64 1, .int .i64 2, .int .i64 0] 62)).heap.size = w1.heap.size + 1 := by simp
 generalize w1.alloc (.cells #[.string ⟨#[109]⟩, .int .i64 0, .int .i64 0, .int .i64 1, .string ⟨#[103]⟩, .int .i64 1, .int .i64 0, .int .i64 1, .string ⟨#[97]⟩, .int .i64 1, .int .i64 2, .int .i64 0] 62) = w2 at r1 hb1 hz1 ⊢
 go_wp2_with fail
 refine (within_16 d0 2 w2 (by decide) (by decide)).mono ?_
 rintro e w3 ⟨rfl, rfl⟩
 obtain ⟨d, hd⟩ : ∃ d : Nat, (d : Int) = d0 % 2 := ⟨(d0 % 2).toNat, by have := Int.emod_nonneg d0 (show (2 : Int) ≠ 0 by decide); omega⟩
 have hd2 : d < 2 := by have := Int.emod_lt_of_pos d0 (show (0 : Int) < 2 by decide); omega
 rw [← hd]
 clear hd
 go_upto_region 7 with fail
 have r2 : Rw (w2.alloc (.cells #[.slice none 0 0, .slice none 0 0, .slice none 0 0] 42)) (w1.heap.size + 1) #[.slice none 0 0, .slice none 0 0, .slice none 0 0] 42 := Rw.new' hz1
 have hb2 := ba (b0 w2) (.cells #[.slice none 0 0, .slice none 0 0, .slice none 0 0] 42)
 have hz2 : (w2.alloc (.cells #[.slice none 0 0, .slice none 0 0, .slice none 0 0] 42)).heap.size = w1.heap.size + 1 + 1 := by simp [hz1]
 generalize w2.alloc (.cells #[.slice none 0 0, .slice none 0 0, .slice none 0 0] 42) = w3 at r2 hb2 hz2 ⊢
 have HSC := Lib.hid (r1)
 have hbz := hz1
 obtain ⟨bc, hbc⟩ : ∃ b, b = w1.heap.size + 1 := ⟨_, rfl⟩
 rw [← hbc] at r2 hz2 ⊢
 have hns : NS w3.heap.size bc d 0 none none 0 0 w3 := ⟨r2, Own.nil _ _ _ _, Own.nil _ _ _ _, fun g h => by simp [blk] at h, fun g h => by simp [blk] at h, by omega, Nat.le_refl _⟩
 have HNS := Lib.hid hns; have HB2 := Lib.hid hb2; have HB12 := Lib.hid (bt HB1.out hb1)
 have hbb : bc < w3.heap.size := by omega
 have hw23 := HB2.out.size
 have hb2z : bc = w2.heap.size := by omega
 have HBC := Lib.hid hb2z
 clear hns hb1 hb2 r1 r2 hz1 hz2 hbz hbc hb2z HB1
 go_wp2_with fail
 go_loopw [7] (fun iv wr => ∃ (i : Nat) (aR aD : Option Addr) (cR cD : Nat), iv = .int .i64 (i : Int) ∧ i ≤ n ∧ Hid (NS w3.heap.size bc d i aR aD cR cD wr) ∧ Hid (Below w2.heap.size w2 wr)) (fun iv _ => n - (intOf iv).toNat)
 case atStart => exact ⟨0, none, none, 0, 0, rfl, Nat.zero_le _, HNS, HB2⟩
 case round =>
  obtain ⟨i, aR, aD, cR, cD, rfl, hi, HS, HB⟩ := hrel
  by_cases hin : i < n
  ·go_upto_region 10 with fail
   refine wp_region_F (fun w' => w'.cell? ⟨bc, 0, none⟩ = some (.slice aR i cR) ∧ w'.cell? ⟨bc, 1, none⟩ = some (.slice aD i cD)) [10, 11, 12] (by kernel_rfl) ?g1rgS (fun hHeld => ?g1rgR)
   case g1rgS => (try dsimp only); (first | exact ⟨HS.out.row.cell 0, HS.out.row.cell 1⟩ | exact ⟨T.row.cell 0, T.row.cell 1⟩)
   try dsimp only at hHeld
   obtain ⟨W, hW⟩ : ∃ W, W = wr.drew := ⟨_, rfl⟩; rw [← hW] at hHeld ⊢; (have hBW : Below w2.heap.size w2 W := by rw [hW]; exact HB.out.drew); (have T : NQ w3.heap.size bc #[.slice aR i cR, .slice aD i cD, .slice none 0 0] aR i cR (ints (List.replicate i 0)) aD i cD (ints (List.replicate i (d : Int))) W := by rw [hW]; exact NQ.below HS.out (b0 wr).drew); clear hW
   refine wpAnyF_tks [0, 1, 4, 5, 6] 8 (by kernel_rfl) (fun _ _ _ _ _ h => h) (by assumption) ?_
   iterate 5 ((apply YA.take rfl (by rfl); case hy => intro w hSw; obtain ⟨s1, s2⟩ := hSw; go_simp; try with_reducible rfl); try simp only [Act.put, pA, pB, pC])
   refine YA.nil ?_
   refine wpAnyF_ready [2, 7] (by kernel_rfl) (by simp) ?_
   refine AllReadyF.con 2 rfl (fun K hK => ?g1ro1) ?g1rm1
   case g1ro1 =>
    go_simp; refine gen_w (fun X hX => ?_); (have hb := NQ.nb T hX); (have rn2 := NQ.nr T hX);  skip; (replace T := T.below hb); (replace hBW := bt hBW hb); clear hb hX
    refine hK.out _ _ ?g1rs1 (fun hHeld => ?g1rt1)
    case g1rs1 => (try dsimp only); (first | exact ⟨HS.out.row.cell 0, HS.out.row.cell 1⟩ | exact ⟨T.row.cell 0, T.row.cell 1⟩)
    try dsimp only at hHeld
    clear hK K
    try simp only [Act.put, pA, pB, pC]
    refine wpAnyF_ready [3, 7] (by kernel_rfl) (by simp) ?_
    refine AllReadyF.con 3 rfl (fun K hK => ?g1ro2) ?g1rm2
    case g1ro2 =>
     (refine step_append (B := w3.heap.size) rfl _ _ _ _ rfl ii (.int .i64 0) 8 Try.underlying22 hii hz0i hz1i hz2i rfl rfl T.oR _ rfl 1 _ (src_rw (P := Try.prog) (tx := 22) Try.underlying22 rn2 1 1 rfl (by simp [Value.oneCell'])) (by simp only [maxLen]; omega) (by omega) T.le ?_; intro a9 cap9 W9 ho9 hc9 hn9);  skip; (replace T := T.pushR (Nat.succ_pos _) ho9 hc9 hn9); (replace hBW := Chg.bt hBW hc9 (fun k hk h => by have := h.2.1; omega)); clear ho9 hc9 hn9 rn2
     refine hK.out _ _ ?g1rs2 (fun hHeld => ?g1rt2)
     case g1rs2 => (try dsimp only); (first | exact ⟨HS.out.row.cell 0, HS.out.row.cell 1⟩ | exact ⟨T.row.cell 0, T.row.cell 1⟩)
     try dsimp only at hHeld
     clear hK K
     try simp only [Act.put, pA, pB, pC]
     refine wpAnyF_tks [9] 5 (by kernel_rfl) (fun _ _ _ _ _ h => h) (by assumption) ?_
     iterate 1 ((apply YA.take rfl (by rfl); case hy => intro w hSw; obtain ⟨s1, s2⟩ := hSw; go_simp; try with_reducible rfl); try simp only [Act.put, pA, pB, pC])
     refine YA.nil ?_
     refine wpAnyF_ready [7] (by kernel_rfl) (by simp) ?_
     refine AllReadyF.con 7 rfl (fun K hK => ?g1ro3) ?g1rm3
     case g1rm3 => exact AllReadyF.nil
     go_simp; refine gen_w (fun X hX => ?_); (have hb := NQ.nb T hX); (have rn7 := NQ.nr T hX); (have hl7 := fun g hg => T.lt g (Or.inl hg)); (try replace rn2 := rn2.below hb); (replace T := T.below hb); (replace hBW := bt hBW hb); clear hb hX
     refine hK.out _ _ ?g1rs3 (fun hHeld => ?g1rt3)
     case g1rs3 => (try dsimp only); (first | exact ⟨HS.out.row.cell 0, HS.out.row.cell 1⟩ | exact ⟨T.row.cell 0, T.row.cell 1⟩)
     try dsimp only at hHeld
     clear hK K
     try simp only [Act.put, pA, pB, pC]
     refine wpAnyF_ready [8] (by kernel_rfl) (by simp) ?_
     refine AllReadyF.con 8 rfl (fun K hK => ?g1ro4) ?g1rm4
     case g1rm4 => exact AllReadyF.nil
     (refine step_append (B := w3.heap.size) rfl _ _ _ _ rfl ii (.int .i64 0) 8 Try.underlying22 hii hz0i hz1i hz2i rfl rfl T.oD _ rfl 1 _ (src_rw (P := Try.prog) (tx := 22) Try.underlying22 rn7 1 1 rfl (by simp [Value.oneCell'])) (by simp only [maxLen]; omega) (by omega) T.le ?_; intro a16 cap16 W16 ho16 hc16 hn16); (replace T := T.pushD (Nat.succ_pos _) ho16 hc16 hn16); (replace hBW := Chg.bt hBW hc16 (fun k hk h => by have := h.2.1; omega)); clear ho16 hc16 hn16 rn7
     refine hK.out _ _ ?g1rs4 (fun hHeld => ?g1rt4)
     case g1rs4 => (try dsimp only); (first | exact ⟨HS.out.row.cell 0, HS.out.row.cell 1⟩ | exact ⟨T.row.cell 0, T.row.cell 1⟩)
     try dsimp only at hHeld
     clear hK K
     try simp only [Act.put, pA, pB, pC]
     refine wpAnyF_ready [10] (by kernel_rfl) (by simp) ?_
     refine AllReadyF.lst 10 rfl (by kernel_rfl) (fun K hK => ?g1ro5) ?g1rm5
     case g1rm5 => exact AllReadyF.nil
     (obtain ⟨c0, c1⟩ := hHeld); (have qf := T.row.frozen); (have ql := T.row.lt); go_simp
     refine hK.out _ _ ?_
     clear hK K
     try simp only [Act.put, pA, pB, pC]
     refine wpAnyF_ready [11] (by kernel_rfl) (by simp) ?_
     refine AllReadyF.lst 11 rfl (by kernel_rfl) (fun K hK => ?g1ro6) ?g1rm6
     case g1rm6 => exact AllReadyF.nil
     go_simp
     refine hK.out _ _ ?_
     clear hK K
     try simp only [Act.put, pA, pB, pC]
     refine wpAnyF_ready [12] (by kernel_rfl) (by simp) ?_
     refine AllReadyF.lst 12 rfl (by kernel_rfl) (fun K hK => ?g1ro7) ?g1rm7
     case g1rm7 => exact AllReadyF.nil
     go_simp
     refine hK.out _ _ ?_
     clear hK K
     try simp only [Act.put, pA, pB, pC]
     refine wpAnyF_done (by kernel_rfl) ?_
     have T2 := T.cell2 (.slice a9 (i + 1) cap9) (.slice a16 (i + 1) cap16)
     have HT2 : Hid (NS w3.heap.size bc d (i + 1) a9 a16 cap9 cap16 _) := Lib.hid (by
      unfold NS
      rw [List.replicate_succ', List.replicate_succ']
      simpa [ints] using T2)
     have HW2 := Lib.hid ((hBW.setCell (p := ⟨bc, 0, none⟩) (by have := HBC.out; simp; omega) (.slice a9 (i + 1) cap9)).setCell (p := ⟨bc, 1, none⟩) (by have := HBC.out; simp; omega) (.slice a16 (i + 1) cap16))
     clear T T2 hBW
     go_wp2_with fail
     go_roundw
     case rel => exact ⟨i + 1, a9, a16, cap9, cap16, by go_num, by omega, HT2, HW2⟩
     case measure => simp [intOf]; omega
    case g1rm2 =>
    refine AllReadyF.con 7 rfl (fun K hK => ?g1ro8) ?g1rm8
    case g1ro8 =>
     go_simp; refine gen_w (fun X hX => ?_); (have hb := NQ.nb T hX); (have rn7 := NQ.nr T hX); (have hl7 := fun g hg => T.lt g (Or.inl hg)); (try replace rn2 := rn2.below hb); (replace T := T.below hb); (replace hBW := bt hBW hb); clear hb hX
     refine hK.out _ _ ?g1rs8 (fun hHeld => ?g1rt8)
     case g1rs8 => (try dsimp only); (first | exact ⟨HS.out.row.cell 0, HS.out.row.cell 1⟩ | exact ⟨T.row.cell 0, T.row.cell 1⟩)
     try dsimp only at hHeld
     clear hK K
     try simp only [Act.put, pA, pB, pC]
     refine wpAnyF_ready [3] (by kernel_rfl) (by simp) ?_
     refine AllReadyF.con 3 rfl (fun K hK => ?g1ro9) ?g1rm9
     case g1rm9 => exact AllReadyF.nil
     (refine step_append (B := w3.heap.size) rfl _ _ _ _ rfl ii (.int .i64 0) 8 Try.underlying22 hii hz0i hz1i hz2i rfl rfl T.oR _ rfl 1 _ (src_rw (P := Try.prog) (tx := 22) Try.underlying22 rn2 1 1 rfl (by simp [Value.oneCell'])) (by simp only [maxLen]; omega) (by omega) T.le ?_; intro a9 cap9 W9 ho9 hc9 hn9);  (replace rn7 := rn7.chg hc9 (fun h => Nat.lt_irrefl _ (hl7 _ h.1))) ; (replace T := T.pushR (Nat.succ_pos _) ho9 hc9 hn9); (replace hBW := Chg.bt hBW hc9 (fun k hk h => by have := h.2.1; omega)); clear ho9 hc9 hn9 rn2
     refine hK.out _ _ ?g1rs9 (fun hHeld => ?g1rt9)
     case g1rs9 => (try dsimp only); (first | exact ⟨HS.out.row.cell 0, HS.out.row.cell 1⟩ | exact ⟨T.row.cell 0, T.row.cell 1⟩)
     try dsimp only at hHeld
     clear hK K
     try simp only [Act.put, pA, pB, pC]
     refine wpAnyF_tks [9] 4 (by kernel_rfl) (fun _ _ _ _ _ h => h) (by assumption) ?_
     iterate 1 ((apply YA.take rfl (by rfl); case hy => intro w hSw; obtain ⟨s1, s2⟩ := hSw; go_simp; try with_reducible rfl); try simp only [Act.put, pA, pB, pC])
     refine YA.nil ?_
     refine wpAnyF_ready [8] (by kernel_rfl) (by simp) ?_
     refine AllReadyF.con 8 rfl (fun K hK => ?g1ro10) ?g1rm10
     case g1rm10 => exact AllReadyF.nil
     (refine step_append (B := w3.heap.size) rfl _ _ _ _ rfl ii (.int .i64 0) 8 Try.underlying22 hii hz0i hz1i hz2i rfl rfl T.oD _ rfl 1 _ (src_rw (P := Try.prog) (tx := 22) Try.underlying22 rn7 1 1 rfl (by simp [Value.oneCell'])) (by simp only [maxLen]; omega) (by omega) T.le ?_; intro a16 cap16 W16 ho16 hc16 hn16); (replace T := T.pushD (Nat.succ_pos _) ho16 hc16 hn16); (replace hBW := Chg.bt hBW hc16 (fun k hk h => by have := h.2.1; omega)); clear ho16 hc16 hn16 rn7
     refine hK.out _ _ ?g1rs10 (fun hHeld => ?g1rt10)
     case g1rs10 => (try dsimp only); (first | exact ⟨HS.out.row.cell 0, HS.out.row.cell 1⟩ | exact ⟨T.row.cell 0, T.row.cell 1⟩)
     try dsimp only at hHeld
     clear hK K
     try simp only [Act.put, pA, pB, pC]
     refine wpAnyF_ready [10] (by kernel_rfl) (by simp) ?_
     refine AllReadyF.lst 10 rfl (by kernel_rfl) (fun K hK => ?g1ro11) ?g1rm11
     case g1rm11 => exact AllReadyF.nil
     (obtain ⟨c0, c1⟩ := hHeld); (have qf := T.row.frozen); (have ql := T.row.lt); go_simp
     refine hK.out _ _ ?_
     clear hK K
     try simp only [Act.put, pA, pB, pC]
     refine wpAnyF_ready [11] (by kernel_rfl) (by simp) ?_
     refine AllReadyF.lst 11 rfl (by kernel_rfl) (fun K hK => ?g1ro12) ?g1rm12
     case g1rm12 => exact AllReadyF.nil
     go_simp
     refine hK.out _ _ ?_
     clear hK K
     try simp only [Act.put, pA, pB, pC]
     refine wpAnyF_ready [12] (by kernel_rfl) (by simp) ?_
     refine AllReadyF.lst 12 rfl (by kernel_rfl) (fun K hK => ?g1ro13) ?g1rm13
     case g1rm13 => exact AllReadyF.nil
     go_simp
     refine hK.out _ _ ?_
     clear hK K
     try simp only [Act.put, pA, pB, pC]
     refine wpAnyF_done (by kernel_rfl) ?_
     have T2 := T.cell2 (.slice a9 (i + 1) cap9) (.slice a16 (i + 1) cap16)
     have HT2 : Hid (NS w3.heap.size bc d (i + 1) a9 a16 cap9 cap16 _) := Lib.hid (by
      unfold NS
      rw [List.replicate_succ', List.replicate_succ']
      simpa [ints] using T2)
     have HW2 := Lib.hid ((hBW.setCell (p := ⟨bc, 0, none⟩) (by have := HBC.out; simp; omega) (.slice a9 (i + 1) cap9)).setCell (p := ⟨bc, 1, none⟩) (by have := HBC.out; simp; omega) (.slice a16 (i + 1) cap16))
     clear T T2 hBW
     go_wp2_with fail
     go_roundw
     case rel => exact ⟨i + 1, a9, a16, cap9, cap16, by go_num, by omega, HT2, HW2⟩
     case measure => simp [intOf]; omega
    case g1rm8 =>
    exact AllReadyF.nil
   case g1rm1 =>
   refine AllReadyF.con 7 rfl (fun K hK => ?g1ro14) ?g1rm14
   case g1ro14 =>
    go_simp; refine gen_w (fun X hX => ?_); (have hb := NQ.nb T hX); (have rn7 := NQ.nr T hX); (have hl7 := fun g hg => T.lt g (Or.inl hg)); (try replace rn2 := rn2.below hb); (replace T := T.below hb); (replace hBW := bt hBW hb); clear hb hX
    refine hK.out _ _ ?g1rs14 (fun hHeld => ?g1rt14)
    case g1rs14 => (try dsimp only); (first | exact ⟨HS.out.row.cell 0, HS.out.row.cell 1⟩ | exact ⟨T.row.cell 0, T.row.cell 1⟩)
    try dsimp only at hHeld
    clear hK K
    try simp only [Act.put, pA, pB, pC]
    refine wpAnyF_ready [2] (by kernel_rfl) (by simp) ?_
    refine AllReadyF.con 2 rfl (fun K hK => ?g1ro15) ?g1rm15
    case g1rm15 => exact AllReadyF.nil
    go_simp; refine gen_w (fun X hX => ?_); (have hb := NQ.nb T hX); (have rn2 := NQ.nr T hX);  (replace rn7 := rn7.below hb) ; (replace T := T.below hb); (replace hBW := bt hBW hb); clear hb hX
    refine hK.out _ _ ?g1rs15 (fun hHeld => ?g1rt15)
    case g1rs15 => (try dsimp only); (first | exact ⟨HS.out.row.cell 0, HS.out.row.cell 1⟩ | exact ⟨T.row.cell 0, T.row.cell 1⟩)
    try dsimp only at hHeld
    clear hK K
    try simp only [Act.put, pA, pB, pC]
    refine wpAnyF_ready [3] (by kernel_rfl) (by simp) ?_
    refine AllReadyF.con 3 rfl (fun K hK => ?g1ro16) ?g1rm16
    case g1rm16 => exact AllReadyF.nil
    (refine step_append (B := w3.heap.size) rfl _ _ _ _ rfl ii (.int .i64 0) 8 Try.underlying22 hii hz0i hz1i hz2i rfl rfl T.oR _ rfl 1 _ (src_rw (P := Try.prog) (tx := 22) Try.underlying22 rn2 1 1 rfl (by simp [Value.oneCell'])) (by simp only [maxLen]; omega) (by omega) T.le ?_; intro a9 cap9 W9 ho9 hc9 hn9);  (replace rn7 := rn7.chg hc9 (fun h => Nat.lt_irrefl _ (hl7 _ h.1))) ; (replace T := T.pushR (Nat.succ_pos _) ho9 hc9 hn9); (replace hBW := Chg.bt hBW hc9 (fun k hk h => by have := h.2.1; omega)); clear ho9 hc9 hn9 rn2
    refine hK.out _ _ ?g1rs16 (fun hHeld => ?g1rt16)
    case g1rs16 => (try dsimp only); (first | exact ⟨HS.out.row.cell 0, HS.out.row.cell 1⟩ | exact ⟨T.row.cell 0, T.row.cell 1⟩)
    try dsimp only at hHeld
    clear hK K
    try simp only [Act.put, pA, pB, pC]
    refine wpAnyF_tks [9] 4 (by kernel_rfl) (fun _ _ _ _ _ h => h) (by assumption) ?_
    iterate 1 ((apply YA.take rfl (by rfl); case hy => intro w hSw; obtain ⟨s1, s2⟩ := hSw; go_simp; try with_reducible rfl); try simp only [Act.put, pA, pB, pC])
    refine YA.nil ?_
    refine wpAnyF_ready [8] (by kernel_rfl) (by simp) ?_
    refine AllReadyF.con 8 rfl (fun K hK => ?g1ro17) ?g1rm17
    case g1rm17 => exact AllReadyF.nil
    (refine step_append (B := w3.heap.size) rfl _ _ _ _ rfl ii (.int .i64 0) 8 Try.underlying22 hii hz0i hz1i hz2i rfl rfl T.oD _ rfl 1 _ (src_rw (P := Try.prog) (tx := 22) Try.underlying22 rn7 1 1 rfl (by simp [Value.oneCell'])) (by simp only [maxLen]; omega) (by omega) T.le ?_; intro a16 cap16 W16 ho16 hc16 hn16); (replace T := T.pushD (Nat.succ_pos _) ho16 hc16 hn16); (replace hBW := Chg.bt hBW hc16 (fun k hk h => by have := h.2.1; omega)); clear ho16 hc16 hn16 rn7
    refine hK.out _ _ ?g1rs17 (fun hHeld => ?g1rt17)
    case g1rs17 => (try dsimp only); (first | exact ⟨HS.out.row.cell 0, HS.out.row.cell 1⟩ | exact ⟨T.row.cell 0, T.row.cell 1⟩)
    try dsimp only at hHeld
    clear hK K
    try simp only [Act.put, pA, pB, pC]
    refine wpAnyF_ready [10] (by kernel_rfl) (by simp) ?_
    refine AllReadyF.lst 10 rfl (by kernel_rfl) (fun K hK => ?g1ro18) ?g1rm18
    case g1rm18 => exact AllReadyF.nil
    (obtain ⟨c0, c1⟩ := hHeld); (have qf := T.row.frozen); (have ql := T.row.lt); go_simp
    refine hK.out _ _ ?_
    clear hK K
    try simp only [Act.put, pA, pB, pC]
    refine wpAnyF_ready [11] (by kernel_rfl) (by simp) ?_
    refine AllReadyF.lst 11 rfl (by kernel_rfl) (fun K hK => ?g1ro19) ?g1rm19
    case g1rm19 => exact AllReadyF.nil
    go_simp
    refine hK.out _ _ ?_
    clear hK K
    try simp only [Act.put, pA, pB, pC]
    refine wpAnyF_ready [12] (by kernel_rfl) (by simp) ?_
    refine AllReadyF.lst 12 rfl (by kernel_rfl) (fun K hK => ?g1ro20) ?g1rm20
    case g1rm20 => exact AllReadyF.nil
    go_simp
    refine hK.out _ _ ?_
    clear hK K
    try simp only [Act.put, pA, pB, pC]
    refine wpAnyF_done (by kernel_rfl) ?_
    have T2 := T.cell2 (.slice a9 (i + 1) cap9) (.slice a16 (i + 1) cap16)
    have HT2 : Hid (NS w3.heap.size bc d (i + 1) a9 a16 cap9 cap16 _) := Lib.hid (by
     unfold NS
     rw [List.replicate_succ', List.replicate_succ']
     simpa [ints] using T2)
    have HW2 := Lib.hid ((hBW.setCell (p := ⟨bc, 0, none⟩) (by have := HBC.out; simp; omega) (.slice a9 (i + 1) cap9)).setCell (p := ⟨bc, 1, none⟩) (by have := HBC.out; simp; omega) (.slice a16 (i + 1) cap16))
    clear T T2 hBW
    go_wp2_with fail
    go_roundw
    case rel => exact ⟨i + 1, a9, a16, cap9, cap16, by go_num, by omega, HT2, HW2⟩
    case measure => simp [intOf]; omega
   case g1rm14 =>
   exact AllReadyF.nil
  ·obtain rfl : i = n := by omega
   have q0 := HS.out.row.cell 0; have q1 := HS.out.row.cell 1; have q2 := HS.out.row.cell 2
   simp at q0 q1 q2
   go_upto_region 11 with fail
   go_wp2_with fail
   have r5 := Rw.new wr #[.slice aR i cR, .slice aD i cD, .slice none 0 0] 42
   have hb5 := ba (b0 wr) (.cells #[.slice aR i cR, .slice aD i cD, .slice none 0 0] 42)
   generalize wr.alloc (.cells #[.slice aR i cR, .slice aD i cD, .slice none 0 0] 42) = w5 at r5 hb5 ⊢
   have q := NQ.below HS.out hb5
   have hcol : ColsR w5 (some ⟨wr.heap.size, 0, none⟩) 1 1 [⟨List.replicate i 0, List.replicate i (d : Int), []⟩] [.slice aR i cR, .slice aD i cD, .slice none 0 0] :=
    ⟨Rw.sl r5 1 3 rfl (by decide), ⟨aR, cR, aD, cD, none, 0, [], by simp, ⟨by simpa using q.oR.sl.mono (ok' := fun b => b < w5.heap.size) (fun k hk _ => hk) (by decide), by simpa using q.oD.sl.mono (ok' := fun b => b < w5.heap.size) (fun k hk _ => hk) (by decide), Sl.nil _ _ _ _⟩, rfl⟩⟩
   have hsch := Rw.sl (HSC.out.below (bt HB.out hb5)) 3 4 rfl (by decide)
   refine (records16_v n_sch n_wy n_rep rfl (some ⟨w1.heap.size, 0, none⟩) (some ⟨wr.heap.size, 0, none⟩) 3 1 1 _ _ (i : Int) w5 hsch hcol (by simp; omega) (by simp)).mono ?_
   rintro e w6 ⟨x, xa, xc, ys, er, rfl, hsl, hrow, hb6, _, hq⟩
   obtain ⟨rfl, _, hu⟩ | ⟨_, _, hno⟩ := hq (by rw [n_leafs]; simp; omega)
   ·obtain rfl : List.replicate i (nT d) = x := hu _ (n_good d hd2 i hn50)
    have HB6 := Lib.hid (bt (bt HB.out hb5) hb6)
    have Q6 := Lib.hid (q.below hb6)
    have hxl : (List.replicate i (nT d)).length = i := by simp
    rw [hxl] at hsl ⊢
    have HSL := Lib.hid hsl; have HROW := Lib.hid hrow
    clear hsl hrow hb6 hq hu q hcol hsch r5 hb5 hxl
    go_upto_region 14 with fail
    go_wp2_with fail
    go_loopw [10] (fun iv wr => ∃ j : Nat, iv = .int .i64 (j : Int) ∧ j ≤ i ∧ wr = w6) (fun iv _ => i - (intOf iv).toNat)
    case atStart => exact ⟨0, rfl, Nat.zero_le _, rfl⟩
    case round =>
     obtain ⟨j, rfl, hj, rfl⟩ := hrel
     by_cases hji : j < i
     ·obtain ⟨xb, xo, rfl, kb, ko, kc, g1, hg⟩ := n_elem hd2 (by simpa using HSL.out) HROW.out hji
      clear HSL HROW Q6 HB6
      rcases hg with ⟨rfl, ga, gc, g2⟩ | ⟨rfl, gb, go, gc, g2, hb, ho, hc, g3, za, zc, g4⟩
      ·go_wp2_with fail
       go_roundw
       case rel => exact ⟨j + 1, by go_num, by omega, trivial⟩
       case measure => simp [intOf]; omega
      ·go_wp2_with fail
       go_roundw
       case rel => exact ⟨j + 1, by go_num, by omega, trivial⟩
       case measure => simp [intOf]; omega
     ·obtain rfl : j = i := by omega
      have qc0 := Q6.out.row.cell 0; have qc1 := Q6.out.row.cell 1; have qc2 := Q6.out.row.cell 2; have qf := Q6.out.row.frozen; have ql := Q6.out.row.lt
      simp at qc0 qc1 qc2
      go_upto_region 19 with fail
      go_upto_region 20 with fail
      have rV := Rw.new' (w := wr.setCell ⟨bc, 2, none⟩ (.slice (some ⟨wr.heap.size, 0, none⟩) 1 1)) (b := wr.heap.size) (cur := #[.int .i64 5, .string ⟨#[]⟩]) (t := 44) (by simp)
      have Q7 : NQ w3.heap.size bc #[.slice aR j cR, .slice aD j cD, .slice (some ⟨wr.heap.size, 0, none⟩) 1 1] aR j cR (ints (List.replicate j 0)) aD j cD (ints (List.replicate j (d : Int))) ((wr.setCell ⟨bc, 2, none⟩ (.slice (some ⟨wr.heap.size, 0, none⟩) 1 1)).alloc (.cells #[.int .i64 5, .string ⟨#[]⟩] 44)) :=
       NQ.below (NQ.cellV Q6.out (.slice (some ⟨wr.heap.size, 0, none⟩) 1 1)) (ba (b0 _) _)
      have HB7 := Lib.hid (ba (HB6.out.setCell (p := ⟨bc, 2, none⟩) (by have := HBC.out; simp; omega) (.slice (some ⟨wr.heap.size, 0, none⟩) 1 1)) (.cells #[.int .i64 5, .string ⟨#[]⟩] 44))
      clear HSL HROW qc0 qc1 qc2 qf ql Q6 HB6 q0 q1 q2
      generalize ((wr.setCell ⟨bc, 2, none⟩ (.slice (some ⟨wr.heap.size, 0, none⟩) 1 1)).alloc (.cells #[.int .i64 5, .string ⟨#[]⟩] 44)) = w7 at rV Q7 HB7 ⊢
      have q0 := Q7.row.cell 0; have q1 := Q7.row.cell 1; have q2 := Q7.row.cell 2
      simp at q0 q1 q2
      have HQ7 := Lib.hid Q7; have HRV := Lib.hid rV
      clear Q7 rV
      go_wp2_with fail
      have r8 := Rw.new w7 #[.slice aR j cR, .slice aD j cD, .slice (some ⟨wr.heap.size, 0, none⟩) 1 1] 42
      have hb8 := ba (b0 w7) (.cells #[.slice aR j cR, .slice aD j cD, .slice (some ⟨wr.heap.size, 0, none⟩) 1 1] 42)
      generalize w7.alloc (.cells #[.slice aR j cR, .slice aD j cD, .slice (some ⟨wr.heap.size, 0, none⟩) 1 1] 42) = w8 at r8 hb8 ⊢
      have q := NQ.below HQ7.out hb8
      have qv := HRV.out.below hb8
      have hcol : ColsR w8 (some ⟨w7.heap.size, 0, none⟩) 1 1 [⟨List.replicate j 0, List.replicate j (d : Int), [⟨5, ⟨#[]⟩⟩]⟩] [.slice aR j cR, .slice aD j cD, .slice (some ⟨wr.heap.size, 0, none⟩) 1 1] :=
       ⟨Rw.sl r8 1 3 rfl (by decide), ⟨aR, cR, aD, cD, _, 1, [], by simp, ⟨by simpa using q.oR.sl.mono (ok' := fun b => b < w8.heap.size) (fun k hk _ => hk) (by decide), by simpa using q.oD.sl.mono (ok' := fun b => b < w8.heap.size) (fun k hk _ => hk) (by decide), Rw.sl qv 1 2 rfl (by decide)⟩, rfl⟩⟩
      have hsch := Rw.sl (HSC.out.below (bt HB7.out hb8)) 3 4 rfl (by decide)
      have HB8 := Lib.hid (bt HB7.out hb8)
      refine (records16_v n_sch n_wy n_rep rfl (some ⟨w1.heap.size, 0, none⟩) (some ⟨w7.heap.size, 0, none⟩) 3 1 1 _ _ (j : Int) w8 hsch hcol (by simp; omega) (by simp only [List.mem_singleton, forall_eq]; decide)).mono ?_
      rintro e w9 ⟨x, xa, xc, ys, er, rfl, hsl, hrow, hb9, _, hq⟩
      obtain ⟨_, hgd, _⟩ | ⟨rfl, rfl, _⟩ := hq (by rw [n_leafs]; simp; omega)
      ·exact absurd hgd (n_not d hd2 j _ _)
      ·have HB9 := Lib.hid (bt HB12.out (bt HB8.out hb9))
       clear hsl hrow hb9 hq q qv hcol hsch r8 hb8
       go_wp2_with fail
       go_ret
       exact ⟨rfl, HB9.out⟩
   ·exact absurd (n_good d hd2 i hn50) (hno _)
end Go.Proofs.Ytjbkjfefjhbolaa
