import Derived.Test.YtjbkjfefjhbolaakMake8
import Derived.Test.YtjbkjfefjhbolaakOkP
import Derived.Test.YtjbkjfefjhbolaakCol14S
import Derived.Test.YtjbkjfefjhbolaakLeafP
import Derived.Test.YtjbkjfefjhbolaakOwn14
set_option linter.unusedSimpArgs false
set_option linter.unusedVariables false
namespace Go.Shr
open Go.RowKit
theorem ORow.below {e : TypeId} {B : Nat} {w w' : World} {a : Option Addr} {n cap : Nat} {l : List Tr} {ys : List Value} (h : ORow e B w a n cap l ys) (hb : Below w.heap.size w w') : ORow e B w' a n cap l ys :=
 ⟨h.own.below hb, h.row.go (Chg.ofBelow hb) (fun k hk h => ⟨by omega, h⟩), fun b h2 => Nat.lt_of_lt_of_le (h.lt b h2) hb.size, h.len⟩
/-- Rows of numbers: their headers. -/
structure IRows (w : World) (zz : List (List Int)) (xs : List Value) : Prop where
 len : xs.length = zz.length
 row : ∀ k (h : k < zz.length), ∃ a cap, xs[k]? = some (.slice a zz[k].length cap) ∧ Sl (fun b => b < w.heap.size) w 1 a zz[k].length cap (zz[k].map fun z => .int .i64 z)
theorem IRows.below {w w' : World} {zz : List (List Int)} {xs : List Value} (h : IRows w zz xs) (hb : Below w.heap.size w w') : IRows w' zz xs :=
 ⟨h.len, fun k hk => by obtain ⟨a, c, h1, h2⟩ := h.row k hk; exact ⟨a, c, h1, slb h2 hb⟩⟩
end Go.Shr
namespace Go.Proofs.Ytjbkjfefjhbolaa
open Go.RowKit Go.Shr
/-- At most sixteen records. -/
def manyT (sh : Sh) (zz : List (List Int)) : List Tr := (zz.take 16).map (makeT sh)
theorem manyT_len (sh : Sh) (zz : List (List Int)) : (manyT sh zz).length ≤ 16 := by simp [manyT]; omega
set_option maxHeartbeats 1000000 in
set_option maxRecDepth 100000 in
theorem many_v (l : List Fl) (sh : Sh) (hS : Sch l sh) (sa : Option Addr) (scap : Nat) (ra : Option Addr) (rn rcap : Nat) (zz : List (List Int)) (xs : List Value) (w : World) (hs : Sl (fun b => b < w.heap.size) w 4 sa l.length scap (fls l))
  (hr : Sl (fun b => b < w.heap.size) w 1 ra rn rcap xs) (hz : IRows w zz xs) (hwf : ∀ z ∈ zz, ∀ v ∈ z, (Lit.int .i64 v).wf = true) :
  Calls Try.prog 12 #[.slice sa l.length scap, .slice ra rn rcap] w fun e w' => ∃ a' cap' ys, e = .returned (.slice a' (manyT sh zz).length cap') ∧ Sl (fun b => w.heap.size ≤ b) w' 3 a' (manyT sh zz).length cap' ys ∧ RowG (fun b => w.heap.size ≤ b) w' (manyT sh zz) ys ∧ Below w.heap.size w w' := by
 obtain ⟨it, hit, hz0t, hz1t, hz2t⟩ := info_parts info_tr
 have hrn : rn = zz.length := by have h1 := hr.len; have h2 := hz.len; omega
 subst hrn
 have hmx := Nat.le_trans hr.le hr.max
 unfold maxLen at hmx
 have HS := Lib.hid hs; have HR := Lib.hid hr; have HZ := Lib.hid hz; have HWF := Lib.hid hwf; have HSC := Lib.hid hS
 clear hs hr hz hwf hS
 go_enter Try.func12, Try.ntmps12
 go_wp2_with fail
 go_loopw [5, 6] (fun lv iv wr => ∃ (j : Nat) (aL : Option Addr) (cL : Nat) (ys : List Value), lv = .slice aL j cL ∧ iv = .int .i64 (j : Int) ∧ j ≤ zz.length ∧ j ≤ 16 ∧ Hid (ORow 57 w.heap.size wr aL j cL ((zz.take j).map (makeT sh)) ys) ∧ Hid (Below w.heap.size w wr)) (fun _ iv _ => zz.length - (intOf iv).toNat)
 case atStart => exact ⟨0, none, 0, [], rfl, rfl, Nat.zero_le _, Nat.zero_le _, Lib.hid (by simpa using ORow.nil _ _ _), Lib.hid (b0 w)⟩
 case round =>
  obtain ⟨j, aL, cL, ys, rfl, rfl, hj, hj16, HOR, HB⟩ := hrel
  have hszr := HB.out.size
  by_cases hlt : j < zz.length ∧ j < 16
  ·obtain ⟨hlt, hl16⟩ := hlt
   have hl16' : (j : Int) < 16 := by omega
   obtain ⟨rb, roff, rfl, hrb, hrc⟩ := HR.out.pos (by omega)
   obtain ⟨na, ncap, g0, hns⟩ := HZ.out.row j hlt
   replace g0 := cb HB.out (hrc _ _ g0)
   have HTK : Hid ((zz.take (j + 1)).map (makeT sh) = (zz.take j).map (makeT sh) ++ [makeT sh zz[j]]) := Lib.hid (by rw [List.take_succ_eq_append_getElem hlt, List.map_append]; rfl)
   have HWZ := Lib.hid (HWF.out zz[j] (List.getElem_mem hlt))
   have hnx := Nat.le_trans hns.le hns.max
   unfold maxLen at hnx
   have HNS : Hid (Sl (fun b => b < w.heap.size) w 1 na zz[j].length ncap (ints zz[j])) := Lib.hid hns
   generalize zz[j] = z at *
   clear hrc hns
   go_wp2_with fail
   refine (make8 sa scap l sh na z.length ncap z wr HSC.out (slb HS.out HB.out) (slb HNS.out HB.out) HWZ.out).mono ?_
   rintro e w2 ⟨a2, m2, c2, rfl, ht, hb2⟩
   generalize makeT sh z = t at *
   have hsz2 := hb2.size
   have hor2 := HOR.out.below hb2
   have HOR2 := Lib.hid (hor2.chg ((Chg.refl (fun _ => False) w2).alloc (.cells #[.int .i64 t.n, .string t.s, .slice a2 m2 c2] 57)) (fun _ _ h => h))
   have hlt2 := HOR.out.lt
   have HT2 := Lib.hid (TrG.go (ok' := fun b => w.heap.size ≤ b ∧ ¬ blk aL b) ((Chg.refl (fun _ => False) w2).alloc (.cells #[.int .i64 t.n, .string t.s, .slice a2 m2 c2] 57)) (fun b _ hb => ⟨fun h => h, by omega, fun h => by have := hlt2 b h; omega⟩) ht)
   have HOO := Lib.hid hor2.own
   have HB2 := Lib.hid (bt HB.out hb2)
   clear ht hor2 hlt2 hb2 g0
   have tok1 : True := trivial
   go_wp2_with (first
    | (at_builtin; have _t := tok1; clear tok1; clear _t; refine wpList_append (B := w.heap.size) rfl _ _ _ _ rfl it (.agg #[.int .i64 0, .string ByteArray.empty, .slice none 0 0]) 48 Try.underlying28 hit hz0t hz1t hz2t rfl rfl (HOO.out.alloc _) _ rfl _ _ (src_built (e' := 57) Try.underlying28 w2 #[.int .i64 t.n, .string t.s, .slice a2 m2 c2] 57 1 3 rfl (by simp [Value.oneCell'])) (by simp only [maxLen]; omega) (by omega) (by first | omega | (simp; omega) | simp) ?_; intro a5 cap5 w5 ho5 hc5 hn5); (have HOR5 := Lib.hid (ORow.push HOR2.out HT2.out ho5 hc5 hn5)); (have HC5 := Lib.hid hc5); clear ho5 hc5 hn5
    | fail)
   go_roundw
   case rel =>
    refine ⟨j + 1, a5, cap5, ys ++ [.int .i64 t.n, .string t.s, .slice a2 m2 c2], rfl, by go_num, by omega, by omega, Lib.hid ?_, Lib.hid ?_⟩
    ·rw [HTK.out]; exact HOR5.out
    ·exact Chg.bt (ba HB2.out (.cells #[.int .i64 t.n, .string t.s, .slice a2 m2 c2] 57)) HC5.out (fun b hb h => by omega)
   case measure => simp [intOf]; omega
  ·have hmt : Hid ((zz.take j).map (makeT sh) = manyT sh zz) := Lib.hid (by
    unfold manyT
    by_cases h : j < zz.length
    ·obtain rfl : j = 16 := by omega
     rfl
    ·rw [List.take_of_length_le (by omega), List.take_of_length_le (by omega)])
   have hml : Hid (j = (manyT sh zz).length) := Lib.hid (by rw [← hmt.out]; simp; omega)
   have HO := HOR.out.sl
   rw [hmt.out] at HO
   have HOX := Lib.hid HO
   clear HO
   by_cases hl : j < zz.length
   ·have hl16' : ¬ (j : Int) < 16 := by omega
    clear hlt
    go_wp2_with fail
    go_ret
    have hml' := hml.out
    subst hml'
    exact ⟨aL, cL, rfl, ys, HOX.out.1, HOX.out.2, HB.out⟩
   ·have hl' : ¬ (j : Int) < (zz.length : Int) := by omega
    clear hlt hl
    go_wp2_with fail
    go_ret
    have hml' := hml.out
    subst hml'
    exact ⟨aL, cL, rfl, ys, HOX.out.1, HOX.out.2, HB.out⟩
end Go.Proofs.Ytjbkjfefjhbolaa
namespace Go.Proofs.Ytjbkjfefjhbolaa
open Go.RowKit Go.Shr
theorem many_ok14 {zz : List (List Int)} (hwf : ∀ z ∈ zz, ∀ v ∈ z, (Lit.int .i64 v).wf = true) (sh : Sh) : ∀ t ∈ manyT sh zz, okT sh t := by
 intro t ht
 obtain ⟨z, hz, rfl⟩ := List.mem_map.1 ht
 exact ok_make (hwf z (List.mem_of_mem_take hz)) sh
theorem many_th (ns : List Int) (zz : List (List Int)) : ∀ t ∈ manyT (makeSh ns) zz, thT (makeSh ns) t := by
 intro t ht
 obtain ⟨z, hz, rfl⟩ := List.mem_map.1 ht
 exact th_mkT z _ 0
theorem make_rep (ns : List Int) : ∀ x ∈ makeL ns, x.rep = 0 ∨ x.rep = 1 ∨ x.rep = 2 := by
 intro x hx
 rw [makeL_flat] at hx
 have := flat_bd _ (makeSh_good ns).1 x hx
 omega
theorem made_colsE {l : List Fl} {sh : Sh} (hS : Sch l sh) (hh : hgt sh ≤ 5) {rows : List Tr} (hok : ∀ t ∈ rows, okT sh t) (hth : ∀ t ∈ rows, thT sh t) (hn : rows.length ≤ 16) : colsE l sh rows = 0 := by
 unfold colsE
 have hf : firstE (rows.map fun t => fitT l (KF l) t 0) = 0 := firstE_zero.2 (fun e he => by
  obtain ⟨t, ht, rfl⟩ := List.mem_map.1 he
  exact fit_okT sh 0 t hS.ix hS.good (hok t ht))
 rw [if_neg (by omega), hf, if_neg (fun h => h rfl), if_neg]
 rw [many_no (l := l) hh hth hn]
 decide
mutual
theorem leaf_in {l : List Fl} : ∀ (s : Sh) (i : Nat), GoodS s → Ix l (fun v => kidsOf (par l) v) i s → ∃ j, i ≤ j ∧ j < i + s.size ∧ (flN l j).kind ≠ 0
 | .mk nm rp kd ks, i, hg, hx => by
  simp only [GoodS] at hg
  simp only [Ix] at hx
  by_cases hk : kd = 0
  ·obtain ⟨j, h1, h2, h3⟩ := leafL_in ks (i + 1) (hg.2.2.2.2.2.1 hk) hg.2.2.2.2.2.2 hx.2.2
   exact ⟨j, by omega, by simp only [Sh.size]; omega, h3⟩
  ·obtain ⟨hil, hie⟩ := List.getElem?_eq_some_iff.1 hx.1
   exact ⟨i, Nat.le_refl _, by simp only [Sh.size]; omega, by rw [flN_eq hil, hie]; exact hk⟩
theorem leafL_in {l : List Fl} : ∀ (ks : List Sh) (o : Nat), ks ≠ [] → GoodL ks → IxL l (fun v => kidsOf (par l) v) o ks → ∃ j, o ≤ j ∧ j < o + shSizes ks ∧ (flN l j).kind ≠ 0
 | [], o, h, _, _ => absurd rfl h
 | s :: q, o, _, hg, hx => by
  simp only [GoodL] at hg
  simp only [IxL] at hx
  obtain ⟨j, h1, h2, h3⟩ := leaf_in s o hg.1 hx.1
  exact ⟨j, h1, by simp only [shSizes]; omega, h3⟩
end
theorem Sch.leaf {l : List Fl} {sh : Sh} (h : Sch l sh) : 0 < (leafs l l.length).length := by
 obtain ⟨j, _, h2, h3⟩ := leaf_in sh 0 h.good h.ix
 have hl := h.len
 exact List.length_pos_of_mem (leafs_mem.2 ⟨by omega, h3⟩)
end Go.Proofs.Ytjbkjfefjhbolaa
