import Derived.Test.YtjbkjfefjhbolaakCol14S
import Derived.Test.YtjbkjfefjhbolaakOwn14
set_option linter.all false
open List renaming take_of_length_le → zLP, mem_map → zLQ
namespace Go.Shr
open Go.RowKit
theorem jP.below {e : TypeId} {B : Nat} {w w' : World} {a : Option Addr} {n cap : Nat} {l : List Tr} {ys : List Value} (h : jP e B w a n cap l ys) (hb : Below w.heap.size w w') : jP e B w' a n cap l ys :=
 ⟨h.own.below hb, h.row.go (Chg.ofBelow hb) (fun k hk h => ⟨by omega, h⟩), fun b h2 => Nat.lt_of_lt_of_le (h.lt b h2) hb.size, h.len⟩
structure zEa (w : World) (zz : List (List Int)) (xs : List Value) : Prop where
 len : xs.length = zz.length
 row : ∀ k (h : k < zz.length), ∃ a cap, xs[k]? = some (.slice a zz[k].length cap) ∧ Sl (fun b => b < w.heap.size) w 1 a zz[k].length cap (zz[k].map fun z => .int .i64 z)
theorem zEa.below {w w' : World} {zz : List (List Int)} {xs : List Value} (h : zEa w zz xs) (hb : Below w.heap.size w w') : zEa w' zz xs :=
 ⟨h.len, fun k hk => by obtain ⟨a, c, h1, h2⟩ := h.row k hk; exact ⟨a, c, h1, slb h2 hb⟩⟩
end Go.Shr
namespace Go.Proofs.Ytjbkjfefjhbolaa
open Go.RowKit Go.Shr
def zBV (sh : Sh) (zz : List (List Int)) : List Tr := (zz.take 16).map (zBX sh)
theorem zH9 (sh : Sh) (zz : List (List Int)) : (zBV sh zz).length ≤ 16 := by simp [zBV]; omega
set_option maxHeartbeats 1000000 in
set_option maxRecDepth 100000 in
theorem zKW (l : List Fl) (sh : Sh) (hS : Sch l sh) (sa : Option Addr) (scap : Nat) (ra : Option Addr) (rn rcap : Nat) (zz : List (List Int)) (xs : List Value) (w : World) (hs : Sl (fun b => b < w.heap.size) w 4 sa l.length scap (fls l))
  (hr : Sl (fun b => b < w.heap.size) w 1 ra rn rcap xs) (hz : zEa w zz xs) (hwf : ∀ z ∈ zz, ∀ v ∈ z, (Lit.int .i64 v).wf = true) :
  Calls Try.prog 12 #[.slice sa l.length scap, .slice ra rn rcap] w fun e w' => ∃ a' cap' ys, e = .returned (.slice a' (zBV sh zz).length cap') ∧ Sl (fun b => w.heap.size ≤ b) w' 3 a' (zBV sh zz).length cap' ys ∧ zZ (fun b => w.heap.size ≤ b) w' (zBV sh zz) ys ∧ Below w.heap.size w w' := by
 obtain ⟨it, hit, hz0t, hz1t, hz2t⟩ := info_parts zCm
 have hrn : rn = zz.length := by have h1 := hr.len; have h2 := hz.len; omega
 subst hrn
 have hmx := Nat.le_trans hr.le hr.max
 unfold maxLen at hmx
 have HS := zH hs; have HR := zH hr; have HZ := zH hz; have HWF := zH hwf; have HSC := zH hS
 clear hs hr hz hwf hS
 go_enter Try.func12, Try.ntmps12
 go_wp2_with fail
 go_loopw [5, 6] (fun lv iv wr => ∃ (j : Nat) (aL : Option Addr) (cL : Nat) (ys : List Value), lv = .slice aL j cL ∧ iv = .int .i64 (j : Int) ∧ j ≤ zz.length ∧ j ≤ 16 ∧ Hid (jP 57 w.heap.size wr aL j cL ((zz.take j).map (zBX sh)) ys) ∧ Hid (Below w.heap.size w wr)) (fun _ iv _ => zz.length - (intOf iv).toNat)
 case atStart => exact ⟨0, none, 0, [], rfl, rfl, Nat.zero_le _, Nat.zero_le _, zH (by simpa using jP.nil _ _ _), zH (b0 w)⟩
 case round =>
  obtain ⟨j, aL, cL, ys, rfl, rfl, hj, hj16, HOR, HB⟩ := hrel
  have hszr := HB.out.size
  by_cases hlt : j < zz.length ∧ j < 16
  ·obtain ⟨hlt, hl16⟩ := hlt
   have hl16' : (j : Int) < 16 := by omega
   obtain ⟨rb, roff, rfl, hrb, hrc⟩ := HR.out.pos (by omega)
   obtain ⟨na, ncap, g0, hns⟩ := HZ.out.row j hlt
   replace g0 := cb HB.out (hrc _ _ g0)
   have HTK : Hid ((zz.take (j + 1)).map (zBX sh) = (zz.take j).map (zBX sh) ++ [zBX sh zz[j]]) := zH (by rw [List.take_succ_eq_append_getElem hlt, List.map_append]; rfl)
   have HWZ := zH (HWF.out zz[j] (List.getElem_mem hlt))
   have hnx := Nat.le_trans hns.le hns.max
   unfold maxLen at hnx
   have HNS : Hid (Sl (fun b => b < w.heap.size) w 1 na zz[j].length ncap (zQ zz[j])) := zH hns
   generalize zz[j] = z at *
   clear hrc hns
   go_wp2_with fail
   refine (zLr sa scap l sh na z.length ncap z wr HSC.out (slb HS.out HB.out) (slb HNS.out HB.out) HWZ.out).mono ?_
   rintro e w2 ⟨a2, m2, c2, rfl, ht, hb2⟩
   generalize zBX sh z = t at *
   have hsz2 := hb2.size
   have hor2 := HOR.out.below hb2
   have HOR2 := zH (hor2.chg ((Chg.refl (fun _ => False) w2).alloc (.cells #[.int .i64 t.n, .string t.s, .slice a2 m2 c2] 57)) (fun _ _ h => h))
   have hlt2 := HOR.out.lt
   have HT2 := zH (TrG.go (ok' := fun b => w.heap.size ≤ b ∧ ¬ blk aL b) ((Chg.refl (fun _ => False) w2).alloc (.cells #[.int .i64 t.n, .string t.s, .slice a2 m2 c2] 57)) (fun b _ hb => ⟨fun h => h, by omega, fun h => by have := hlt2 b h; omega⟩) ht)
   have HOO := zH hor2.own
   have HB2 := zH (bt HB.out hb2)
   clear ht hor2 hlt2 hb2 g0
   have tok1 : True := trivial
   go_wp2_with (first
    | (at_builtin; have _t := tok1; clear tok1; clear _t; refine zI (B := w.heap.size) rfl _ _ _ _ rfl it (.agg #[.int .i64 0, .string ByteArray.empty, .slice none 0 0]) 48 Try.underlying28 hit hz0t hz1t hz2t rfl rfl (HOO.out.alloc _) _ rfl _ _ (zP (e' := 57) Try.underlying28 w2 #[.int .i64 t.n, .string t.s, .slice a2 m2 c2] 57 1 3 rfl (by simp [Value.oneCell'])) (by simp only [maxLen]; omega) (by omega) (by first | omega | (simp; omega) | simp) ?_; intro a5 cap5 w5 ho5 hc5 hn5); (have HOR5 := zH (jP.push HOR2.out HT2.out ho5 hc5 hn5)); (have HC5 := zH hc5); clear ho5 hc5 hn5
    | fail)
   go_roundw
   case rel =>
    refine ⟨j + 1, a5, cap5, ys ++ [.int .i64 t.n, .string t.s, .slice a2 m2 c2], rfl, by go_num, by omega, by omega, zH ?_, zH ?_⟩
    ·rw [HTK.out]; exact HOR5.out
    ·exact Chg.bt (ba HB2.out (.cells #[.int .i64 t.n, .string t.s, .slice a2 m2 c2] 57)) HC5.out (fun b hb h => by omega)
   case measure => simp [intOf]; omega
  ·have hmt : Hid ((zz.take j).map (zBX sh) = zBV sh zz) := zH (by
    unfold zBV
    by_cases h : j < zz.length
    ·obtain rfl : j = 16 := by omega
     rfl
    ·rw [zLP (by omega), zLP (by omega)])
   have hml : Hid (j = (zBV sh zz).length) := zH (by rw [← hmt.out]; simp; omega)
   have HO := HOR.out.sl
   rw [hmt.out] at HO
   have HOX := zH HO
   clear HO
   by_cases hl : j < zz.length
   ·have hl16' : ¬ (j : Int) < 16 := by omega
    clear hlt
    go_wp2_with fail
    go_ret
    have hml' := hml.out
    subst hml'
    exact ⟨aL, cL, rfl, ys, HOX.out.1, HOX.out.2, HB.out⟩
   ·have hl' : ¬ (j : Int) < (zz.length : Int) := by omega
    clear hlt hl
    go_wp2_with fail
    go_ret
    have hml' := hml.out
    subst hml'
    exact ⟨aL, cL, rfl, ys, HOX.out.1, HOX.out.2, HB.out⟩
open Go.RowKit Go.Shr
theorem zH8 {zz : List (List Int)} (hwf : ∀ z ∈ zz, ∀ v ∈ z, (Lit.int .i64 v).wf = true) (sh : Sh) : ∀ t ∈ zBV sh zz, okT sh t := by
 intro t ht
 obtain ⟨z, hz, rfl⟩ := zLQ.1 ht
 exact zJY (hwf z (List.mem_of_mem_take hz)) sh
theorem zJ0 (ns : List Int) (zz : List (List Int)) : ∀ t ∈ zBV (jQ ns) zz, thT (jQ ns) t := by
 intro t ht
 obtain ⟨z, hz, rfl⟩ := zLQ.1 ht
 exact zJp z _ 0
theorem zIV (ns : List Int) : ∀ x ∈ qT ns, x.rep = 0 ∨ x.rep = 1 ∨ x.rep = 2 := by
 intro x hx
 rw [zBY] at hx
 have := zFk _ (zAy ns).1 x hx
 omega
theorem zGO {l : List Fl} {sh : Sh} (hS : Sch l sh) (hh : hgt sh ≤ 5) {rows : List Tr} (hok : ∀ t ∈ rows, okT sh t) (hth : ∀ t ∈ rows, thT sh t) (hn : rows.length ≤ 16) : yM l sh rows = 0 := by
 unfold yM
 have hf : zAd (rows.map fun t => yL l (KF l) t 0) = 0 := zAA.2 (fun e he => by
  obtain ⟨t, ht, rfl⟩ := zLQ.1 he
  exact zHC sh 0 t hS.ix hS.good (hok t ht))
 rw [if_neg (by omega), hf, if_neg (fun h => h rfl), if_neg]
 rw [zJ1 (l := l) hh hth hn]
 decide
mutual
theorem zDv {l : List Fl} : ∀ (s : Sh) (i : Nat), zR s → Ix l (fun v => zK (par l) v) i s → ∃ j, i ≤ j ∧ j < i + s.size ∧ (flN l j).kind ≠ 0
 | .mk nm rp kd ks, i, hg, hx => by
  simp only [zR] at hg
  simp only [Ix] at hx
  by_cases hk : kd = 0
  ·obtain ⟨j, h1, h2, h3⟩ := zI2 ks (i + 1) (hg.2.2.2.2.2.1 hk) hg.2.2.2.2.2.2 hx.2.2
   exact ⟨j, by omega, by simp only [Sh.size]; omega, h3⟩
  ·obtain ⟨hil, hie⟩ := List.getElem?_eq_some_iff.1 hx.1
   exact ⟨i, Nat.le_refl _, by simp only [Sh.size]; omega, by rw [qS hil, hie]; exact hk⟩
theorem zI2 {l : List Fl} : ∀ (ks : List Sh) (o : Nat), ks ≠ [] → yG ks → IxL l (fun v => zK (par l) v) o ks → ∃ j, o ≤ j ∧ j < o + zC ks ∧ (flN l j).kind ≠ 0
 | [], o, h, _, _ => absurd rfl h
 | s :: q, o, _, hg, hx => by
  simp only [yG] at hg
  simp only [IxL] at hx
  obtain ⟨j, h1, h2, h3⟩ := zDv s o hg.1 hx.1
  exact ⟨j, h1, by simp only [zC]; omega, h3⟩
end
theorem Sch.leaf {l : List Fl} {sh : Sh} (h : Sch l sh) : 0 < (zG l l.length).length := by
 obtain ⟨j, _, h2, h3⟩ := zDv sh 0 h.good h.ix
 have hl := h.len
 exact List.length_pos_of_mem (zAk.2 ⟨by omega, h3⟩)
end Go.Proofs.Ytjbkjfefjhbolaa
