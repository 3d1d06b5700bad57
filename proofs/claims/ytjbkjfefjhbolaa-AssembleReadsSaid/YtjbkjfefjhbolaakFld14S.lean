import Derived.Test.YtjbkjfefjhbolaakCelS14
set_option linter.all false
open List renaming getD_eq_getElem?_getD → zLP, getElem?_eq_getElem → zLQ, getElem_mem → zLR, append_assoc → zLT, getElem_of_mem → zLV
open Nat renaming add_assoc → zLS, zero_le → zLU, zero_mul → zLW, add_zero → zLX
namespace Go.Proofs.Ytjbkjfefjhbolaa
open Go.RowKit Go.Shr
theorem zAC {P : Program} {c : Code} {Q : Exit → Act → World → Prop} {a : Act} {W : World} (h : ∀ W', W' = W → Code.wp P c Q a W') : Code.wp P c Q a W := h W rfl
def SP.lf (p : SP) (k : Nat) : Nat := p.lfs.getD k 0
theorem zD3 {p : SP} (hl : p.lfs = zG p.l p.l.length) {k : Nat} (hk : k < p.m) : p.lf k < p.l.length ∧ (flN p.l (p.lf k)).kind ≠ 0 := by
 have h1 : p.lf k = p.lfs[k]'hk := by unfold SP.lf; rw [zLP, zLQ hk]; rfl
 have h2 : p.lfs[k]'hk ∈ zG p.l p.l.length := by rw [← hl]; exact zLR hk
 rw [h1]
 exact zAk.1 h2
theorem zEx {α : Type} {l : List α} (h : l.Nodup) {i j : Nat} (hi : i < l.length) (hj : j < l.length) (he : l[i] = l[j]) : i = j := by
 have h2 := List.pairwise_iff_getElem.1 h
 rcases Nat.lt_trichotomy i j with h3 | h3 | h3
 ·exact absurd he (h2 i j hi hj h3)
 ·exact h3
 ·exact absurd he.symm (h2 j i hj hi h3)
theorem zJu {p : SP} (hl : p.lfs = zG p.l p.l.length) {k j : Nat} (hk : k < p.m) (hj : j < p.m) (h : p.lf k = p.lf j) : k = j := by
 have hnd : p.lfs.Nodup := by rw [hl]; unfold zG; exact List.Pairwise.filter _ List.nodup_range
 have h1 : p.lf k = p.lfs[k]'hk := by unfold SP.lf; rw [zLP, zLQ hk]; rfl
 have h2 : p.lf j = p.lfs[j]'hj := by unfold SP.lf; rw [zLP, zLQ hj]; rfl
 rw [h1, h2] at h
 exact zEx hnd _ _ h
theorem zD2 {p : SP} {i k : Nat} : k ∈ p.lv i ↔ k < p.m ∧ i ∈ Go.Shr.chain (par p.l) (p.lf k) := by
 unfold SP.lv SP.lf
 rw [List.mem_filter, List.mem_range, decide_eq_true_eq]
theorem zIX (p : SP) (i : Nat) : (p.lv i).Nodup := by unfold SP.lv; exact List.Pairwise.filter _ List.nodup_range
theorem zLt (p : SP) (i : Nat) : (p.lv i).length ≤ p.m := by unfold SP.lv; exact Nat.le_trans (List.length_filter_le _ _) (by simp)
theorem zFd {p : SP} {sh : Sh} (hS : Sch p.l sh) (hl : p.lfs = zG p.l p.l.length) {i : Nat} (hi : i < p.l.length) (hk : (flN p.l i).kind ≠ 0) : ∃ k0 r, p.lv i = k0 :: r ∧ k0 < p.m ∧ p.lf k0 = i := by
 have h1 : i ∈ p.lfs := by rw [hl]; exact zAk.2 ⟨hi, hk⟩
 obtain ⟨q, hq, he⟩ := zLV h1
 have hq' : q < p.m := hq
 have hlq : p.lf q = i := by unfold SP.lf; rw [zLP, zLQ hq]; exact he
 have hm : q ∈ p.lv i := zD2.2 ⟨hq', by rw [hlq]; exact zAu _ _⟩
 cases hv : p.lv i with
 | nil => rw [hv] at hm; cases hm
 | cons k0 r =>
  have h0 : k0 ∈ p.lv i := by rw [hv]; simp
  obtain ⟨h2, h3⟩ := zD2.1 h0
  have h4 := zD3 hl h2
  have h5 := hS.leaf_chain h4.1 hk h3
  exact ⟨k0, r, rfl, h2, h5.symm⟩
def yH (G : Nat → List Cel) (f : Nat → List Cel) (k : Nat) : List Cel := G k ++ f k
def zD7 (q : List Nat) (c : Cel) (k : Nat) : List Cel := if k ∈ q then [c] else []
theorem zIP {p : SP} {s : Sh} {i r d : Nat} (hl : p.lfs = zG p.l p.l.length) (hx : Ix p.l (fun v => zK (par p.l) v) i s) (hn : i + s.size ≤ (par p.l).length) {k : Nat} (hk : k < p.m) : zD7 (p.lv i) ⟨r, d, none⟩ k = xK (p.lf k) i s r d := by
 have h1 := (zD3 hl hk).1
 have h2 := zCR hx hn (show p.lf k < (par p.l).length by rw [zW]; exact h1)
 unfold zD7 xK
 by_cases h : k ∈ p.lv i
 ·rw [if_pos h, if_pos (h2.1 (zD2.1 h).2)]
 ·rw [if_neg h, if_neg (fun h3 => h (zD2.2 ⟨hk, h2.2 h3⟩))]
def zKL (p : SP) (s : Sh) : Prop := ∀ (i : Nat) (x : List Tr) (a : Option Addr) (cap : Nat) (ys : List Value) (r d deep : Nat) (w : World) (G : Nat → List Cel) (aa : Nat → Option Addr), Ix p.l (fun v => zK (par p.l) v) i s → i + s.size ≤ p.l.length → zR s → Str p w G aa → (∀ t ∈ x, shT s t) → x.length ≤ 50 →
 Sl (fun b => b < p.B0) w 3 a x.length cap ys → zZ (fun b => b < p.B0) w x ys → r ≤ 20000 → d + s.size ≤ 10000 → deep + s.size ≤ 10000 →
 Calls Try.prog 74 #[.pointer (some ⟨p.bx, 0, none⟩), .int .i64 (i : Int), .slice a x.length cap, .int .i64 (r : Int), .int .i64 (d : Int), .int .i64 (deep : Int)] w (zEb p (yH G fun k => jO (p.lf k) i d deep r s x) aa w)
def zKo (p : SP) (s : Sh) : Prop := ∀ (i : Nat) (t : Tr) (a : Option Addr) (cap : Nat) (r d deep : Nat) (w : World) (G : Nat → List Cel) (aa : Nat → Option Addr), Ix p.l (fun v => zK (par p.l) v) i s → i + s.size ≤ p.l.length → zR s → Str p w G aa → shT s t →
 TrG (fun b => b < p.B0) w t [.int .i64 t.n, .string t.s, .slice a t.kids.length cap] → r ≤ 20000 → d + s.size ≤ 10001 → deep + s.size ≤ 10001 →
 Calls Try.prog 65 #[.pointer (some ⟨p.bx, 0, none⟩), .int .i64 (i : Int), .agg #[.int .i64 t.n, .string t.s, .slice a t.kids.length cap], .int .i64 (r : Int), .int .i64 (d : Int), .int .i64 (deep : Int)] w (zEb p (yH G fun k => yK (p.lf k) i d deep r s t) aa w)
set_option maxHeartbeats 2000000 in
set_option maxRecDepth 100000 in
theorem zJb (p : SP) (hl : p.lfs = zG p.l p.l.length) (hll : p.l.length ≤ 1000) (s : Sh) (i : Nat) (a : Option Addr) (cap : Nat) (r d deep : Nat) (w : World) (G : Nat → List Cel) (aa : Nat → Option Addr) (hx : Ix p.l (fun v => zK (par p.l) v) i s) (hn : i + s.size ≤ p.l.length) (h : Str p w G aa) :
  Calls Try.prog 74 #[.pointer (some ⟨p.bx, 0, none⟩), .int .i64 (i : Int), .slice a 0 cap, .int .i64 (r : Int), .int .i64 (d : Int), .int .i64 (deep : Int)] w (zEb p (yH G fun k => jO (p.lf k) i d deep r s []) aa w) := by
 have hsz : 1 ≤ s.size := by cases s; simp only [Sh.size]; omega
 have hi : i < p.l.length := by omega
 obtain ⟨hokl, la, lc, g0, gs⟩ := h.lvs i hi
 dsimp only at g0 gs
 rw [List.length_map] at g0 gs
 have hml : p.m ≤ p.l.length := by unfold SP.m; rw [hl]; exact yW
 have hlvm := zLt p i
 have q2 : w.cell? ⟨p.bx, 2, none⟩ = some (.slice (some ⟨p.bl, 0, none⟩) p.l.length p.l.length) := h.row.cell 2
 have hi0 : (0 : Int) ≤ (i : Int) := by omega
 have hi1 : (i : Int) < (p.l.length : Int) := by omega
 have HQ := zH h; have HGS := zH gs; have HX := zH hx
 clear h gs hx
 go_enter Try.func74, Try.ntmps74
 go_wp2_with fail
 clear q2 g0
 go_loopw [27] (fun jv wr => ∃ (j : Nat) (aa1 : Nat → Option Addr), jv = .int .i64 (j : Int) ∧ j ≤ (p.lv i).length ∧ Hid (Str p wr (yH G (zD7 ((p.lv i).take j) ⟨r, d, none⟩)) aa1) ∧ Hid (Stp p aa w aa1 wr)) (fun jv _ => (p.lv i).length - (intOf jv).toNat)
 case atStart => exact ⟨0, aa, rfl, zLU _, zH (HQ.out.congr (fun k _ => by simp [yH, zD7])), zH (Stp.below (b0 w))⟩
 case round =>
  obtain ⟨j, aa1, rfl, hj, HS, HT⟩ := hrel
  by_cases hlt : j < (p.lv i).length
  ·have hgs := HGS.out.go (ok' := p.ok) HT.out.1 (fun b _ hb => ⟨HQ.out.okch hb, hb⟩) (by decide)
   obtain ⟨lb, lo, rfl, hlb, hlc⟩ := hgs.pos (by omega)
   have hge : (zQ (List.map (fun k : Nat => (k : Int)) (p.lv i)))[j]? = some (.int .i64 ((p.lv i)[j] : Int)) := by simp [zQ, hlt]
   have c0 := hlc _ _ hge
   have hkm := (zD2.1 (zLR hlt)).1
   have HTK : Hid ((p.lv i).take (j + 1) = (p.lv i).take j ++ [(p.lv i)[j]]) := zH (List.take_succ_eq_append_getElem hlt)
   have HNI : Hid ((p.lv i)[j] ∉ (p.lv i).take j) := zH (fun hm => by
    have hnd := zIX p i
    obtain ⟨q, hq, he⟩ := zLV hm
    rw [List.getElem_take] at he
    rw [List.length_take] at hq
    have := zEx hnd _ _ he
    omega)
   generalize (p.lv i)[j] = k at *
   clear hgs hlc hge
   go_wp2_with fail
   refine (zIn p _ aa1 k hkm r d wr HS.out).mono ?_
   rintro e w2 ⟨rfl, aa2, hs2, ht2⟩
   have HS2 := zH (hs2.congr (G' := yH G (zD7 ((p.lv i).take (j + 1)) ⟨r, d, none⟩)) (fun q hq => by
    by_cases hqk : q = k
    ·subst hqk
     rw [zU]
     unfold yH zD7
     rw [if_neg HNI.out, HTK.out, if_pos (by simp)]
     simp
    ·rw [zL _ _ hqk]
     unfold yH zD7
     rw [HTK.out]
     congr 1
     by_cases hm : q ∈ (p.lv i).take j
     ·rw [if_pos hm, if_pos (List.mem_append_left _ hm)]
     ·rw [if_neg hm, if_neg (fun h => by rcases List.mem_append.1 h with h | h; exact hm h; exact hqk (List.mem_singleton.1 h))]))
   have HT2 := zH (HT.out.trans ht2)
   clear hs2 ht2 c0
   go_wp2_with fail
   go_roundw
   case rel => exact ⟨j + 1, aa2, by go_num, by omega, HS2, HT2⟩
   case measure => simp [intOf]; omega
  ·obtain rfl : j = (p.lv i).length := by omega
   go_wp2_with fail
   refine bodyPost_end (v := .tuple #[]) (by simp [results, Try.results74, go_sem]) rfl ?_
   refine ⟨rfl, aa1, HS.out.congr (fun k hk => ?_), HT.out⟩
   unfold yH
   rw [List.take_length, zIP hl HX.out (by rw [zW]; exact hn) hk]
   rfl
theorem zAr {ok : Nat → Prop} {w : World} : ∀ {l : List Tr} {ys : List Value} (_ : zZ ok w l ys) (k : Nat) (hk : k < l.length),
  ∃ a cap, ys[k * 3]? = some (.int .i64 l[k].n) ∧ ys[k * 3 + 1]? = some (.string l[k].s) ∧ ys[k * 3 + 2]? = some (.slice a l[k].kids.length cap) ∧ TrG ok w l[k] [.int .i64 l[k].n, .string l[k].s, .slice a l[k].kids.length cap]
 | t :: r, ys, h, 0, _ => by
  simp only [zZ] at h
  obtain ⟨c0, c1, c2, yr, rfl, h2, _⟩ := h
  have h2' := h2
  obtain ⟨n, s, ks⟩ := t
  simp only [TrG] at h2
  obtain ⟨a, m, cap, xs, hcs, hs, hsl, hk⟩ := h2
  simp at hcs
  obtain ⟨rfl, rfl, rfl⟩ := hcs
  have hm : m = ks.length := by have := hsl.len; have := hk.len; omega
  subst hm
  exact ⟨a, cap, rfl, rfl, rfl, h2'⟩
 | t :: r, ys, h, k + 1, hk => by
  simp only [zZ] at h
  obtain ⟨c0, c1, c2, yr, rfl, _, h3⟩ := h
  rw [show (k + 1) * 3 = k * 3 + 1 + 1 + 1 by omega]
  simpa using zAr h3 k (by simpa using hk)
set_option maxHeartbeats 4000000 in
set_option maxRecDepth 100000 in
theorem zJa (p : SP) (hll : p.l.length ≤ 1000) (s : Sh) (HVs : zKo p s) (i : Nat) (x : List Tr) (hx0 : x ≠ []) (a : Option Addr) (cap : Nat) (ys : List Value) (r d deep : Nat) (w : World) (G : Nat → List Cel) (aa : Nat → Option Addr) (hx : Ix p.l (fun v => zK (par p.l) v) i s) (hn : i + s.size ≤ p.l.length) (hg : zR s) (h : Str p w G aa) (hsh : ∀ t ∈ x, shT s t) (hx50 : x.length ≤ 50)
  (hsl : Sl (fun b => b < p.B0) w 3 a x.length cap ys) (hrw : zZ (fun b => b < p.B0) w x ys) (hr : r ≤ 20000) (hd : d + s.size ≤ 10000) (hdp : deep + s.size ≤ 10000) :
  Calls Try.prog 74 #[.pointer (some ⟨p.bx, 0, none⟩), .int .i64 (i : Int), .slice a x.length cap, .int .i64 (r : Int), .int .i64 (d : Int), .int .i64 (deep : Int)] w (zEb p (yH G fun k => jO (p.lf k) i d deep r s x) aa w) := by
 have hsz : 1 ≤ s.size := by cases s; simp only [Sh.size]; omega
 have hi : i < p.l.length := by omega
 have hxl : 0 < x.length := List.length_pos_iff.2 hx0
 have hxb : ((x.length : Int) == 0) = false := beq_eq_false_iff_ne.2 (by omega)
 have hf : ∃ f, p.l[i]? = some f ∧ f.rep = s.rep := by
  obtain ⟨nm, rp, kd, kk⟩ := s
  simp only [Ix] at hx
  exact ⟨_, hx.1, rfl⟩
 obtain ⟨f, hf1, hf2⟩ := hf
 obtain ⟨hil, hie⟩ := List.getElem?_eq_some_iff.1 hf1
 have hrep : s.rep = 0 ∨ s.rep = 1 ∨ s.rep = 2 := by
  obtain ⟨nm, rp, kd, kk⟩ := s
  simp only [zR] at hg
  simp only [Sh.rep]
  omega
 obtain ⟨sb, so, hsa, hsb, hsc⟩ := h.s.pos (by omega)
 have f1 := (yB p.l i hil).2.1
 rw [hie, hf2] at f1
 replace f1 := hsc _ _ f1
 rw [← zLS] at f1
 have q0 : w.cell? ⟨p.bx, 0, none⟩ = some (.slice p.sa p.l.length p.sc) := h.row.cell 0
 rw [hsa] at q0
 have hi0 : (0 : Int) ≤ (i : Int) := by omega
 have hi1 : (i : Int) < (p.l.length : Int) := by omega
 have HQ := zH h; have HX := zH hx; have HG := zH hg; have HSH := zH hsh; have HSL := zH hsl; have HRW := zH hrw; have HV := zH HVs
 have HX0 := zH hx0
 have HFN : Hid (∀ g (hg : g < x.length), (fun k => jW (p.lf k) i d deep r s x (g + 1)) = yH (fun k => jW (p.lf k) i d deep r s x g) (fun k => yK (p.lf k) i (d + dmI s.rep) (deep + rmI s.rep) (if g = 0 then r else deep + rmI s.rep) s x[g])) := zH (fun g hg => by funext k; exact zCF hg)
 obtain ⟨D, hD⟩ : ∃ D, D = d + dmI s.rep := ⟨_, rfl⟩
 obtain ⟨E, hE⟩ : ∃ E, E = deep + rmI s.rep := ⟨_, rfl⟩
 have hDl : D ≤ d + 1 := by rw [hD]; unfold dmI; split <;> omega
 have hEl : E ≤ deep + 1 := by rw [hE]; unfold rmI; split <;> omega
 rw [← hD, ← hE] at HFN
 generalize hre : s.rep = rp at *
 clear h hx hg hsh hsl hrw HVs hsc hie hf1 hf2 hx0 hre
 go_enter Try.func74, Try.ntmps74
 rcases hrep with rfl | rfl | rfl
 ·simp only [dmI, rmI] at hD hE
  simp at hD hE
  have hD' := hD.symm
  have hE' := hE.symm
  clear hD hE
  subst hD'
  subst hE'
  have eD : ((d : Int) + 1) = ((d + 1 : Nat) : Int) := rfl
  have eE : ((deep : Int) + 1) = ((deep + 1 : Nat) : Int) := rfl
  have ED := zH eD; have EE := zH eE
  clear eD eE
  go_wp2_with fail
  clear q0 f1
  go_loopw [3, 61] (fun rv jv wr => ∃ (g : Nat) (aa1 : Nat → Option Addr) (rr : Nat), rv = .int .i64 (rr : Int) ∧ jv = .int .i64 (g : Int) ∧ g ≤ x.length ∧ rr ≤ 20000 ∧ Hid (g = 0 → rr = r) ∧ Hid (Str p wr (yH G (fun k => jW (p.lf k) i d deep r s x g)) aa1) ∧ Hid (Stp p aa w aa1 wr)) (fun _ jv _ => x.length - (intOf jv).toNat)
  case atStart => exact ⟨0, aa, r, rfl, rfl, zLU _, hr, zH (fun _ => rfl), zH (HQ.out.congr (fun k _ => by simp [yH, jW])), zH (Stp.below (b0 w))⟩
  case round =>
   obtain ⟨g, aa1, rr, rfl, rfl, hg, hrr, HR, HS, HT⟩ := hrel
   by_cases hlt : g < x.length
   ·have hsl1 := HSL.out.go (ok' := fun b => b < p.B0) HT.out.1 (fun b _ hb => ⟨HQ.out.low hb, hb⟩) (by decide)
    have hrw1 := HRW.out.go (ok' := fun b => b < p.B0) HT.out.1 (fun b _ hb => ⟨HQ.out.low hb, hb⟩)
    obtain ⟨xb, xo, rfl, hxb', hxc⟩ := hsl1.pos (by omega)
    obtain ⟨ya, ycap, y0, y1, y2, hyt⟩ := zAr hrw1 g hlt
    have c0 := hxc _ _ y0; have c1 := hxc _ _ y1; have c2 := hxc _ _ y2
    rw [← zLS] at c1 c2
    have HST := zH (HSH.out _ (zLR hlt))
    have HFG := zH (HFN.out g hlt)
    have HYT := zH hyt
    have hgl : (g : Int) < (x.length : Int) := by omega
    generalize x[g] = y at *
    clear hsl1 hrw1 hxc y0 y1 y2 hyt
    by_cases hg0 : g = 0
    ·subst hg0
     simp only [zLW, zLX] at c0 c1 c2
     go_wp2_with fail
     refine zGl (fun w1 hw1 => ?_)
     have hb1 : Below wr.heap.size wr w1 := by rw [hw1]; exact ba (b0 _) _
     clear hw1
     (try rw [ED.out]); (try rw [EE.out])
     refine (HV.out i y ya ycap rr d deep w1 _ aa1 HX.out hn HG.out (HS.out.below hb1) HST.out (HYT.out.go (chF hb1) (fun b _ hb => ⟨fun h => h, hb⟩)) hrr (by omega) (by omega)).mono ?_
     rintro e w2 ⟨rfl, aa2, hs2, ht2⟩
     have HS2 := zH (hs2.congr (G' := yH G (fun k => jW (p.lf k) i d deep r s x (0 + 1))) (fun k _ => by
      rw [HFG.out, HR.out (by simp)]; unfold yH; simp))
     have HT2 := zH ((HT.out.trans (Stp.below hb1)).trans ht2)
     clear hs2 ht2 hb1 c0 c1 c2
     go_wp2_with fail
     go_roundw
     case rel => exact ⟨0 + 1, aa2, rr, rfl, by go_num, by omega, hrr, zH (fun h => by omega), HS2, HT2⟩
     case measure => simp [intOf]; omega
    ·have hgi : (g : Int) > 0 := by omega
     go_wp2_with fail
     refine zGl (fun w1 hw1 => ?_)
     have hb1 : Below wr.heap.size wr w1 := by rw [hw1]; exact ba (b0 _) _
     clear hw1
     (try rw [ED.out]); (try rw [EE.out])
     refine (HV.out i y ya ycap deep d deep w1 _ aa1 HX.out hn HG.out (HS.out.below hb1) HST.out (HYT.out.go (chF hb1) (fun b _ hb => ⟨fun h => h, hb⟩)) (show _ ≤ 20000 by omega) (by omega) (by omega)).mono ?_
     rintro e w2 ⟨rfl, aa2, hs2, ht2⟩
     have HS2 := zH (hs2.congr (G' := yH G (fun k => jW (p.lf k) i d deep r s x (g + 1))) (fun k _ => by
      rw [HFG.out]; unfold yH; rw [if_neg hg0, zLT]))
     have HT2 := zH ((HT.out.trans (Stp.below hb1)).trans ht2)
     clear hs2 ht2 hb1 c0 c1 c2
     go_wp2_with fail
     go_roundw
     case rel =>
      refine ⟨g + 1, aa2, deep, ?_, ?_, by omega, ?_, zH (fun h => by omega), HS2, HT2⟩
      ·first | rfl | go_num
      ·go_num
      ·omega
     case measure => simp [intOf]; omega
   ·obtain rfl : g = x.length := by omega
    go_wp2_with fail
    refine bodyPost_end (v := .tuple #[]) (by simp [results, Try.results74, go_sem]) rfl ?_
    refine ⟨rfl, aa1, HS.out.congr (fun k _ => ?_), HT.out⟩
    unfold yH
    dsimp only
    rw [zBw HX0.out]
 ·simp only [dmI, rmI] at hD hE
  simp at hD hE
  have hD' := hD.symm
  have hE' := hE.symm
  clear hD hE
  subst hD'
  subst hE'
  have eD : ((d : Int) + 1) = ((d + 1 : Nat) : Int) := rfl
  have eE : ((deep : Int) + 1) = ((deep + 1 : Nat) : Int) := rfl
  have ED := zH eD; have EE := zH eE
  clear eD eE
  go_wp2_with fail
  clear q0 f1
  go_loopw [3, 61] (fun rv jv wr => ∃ (g : Nat) (aa1 : Nat → Option Addr) (rr : Nat), rv = .int .i64 (rr : Int) ∧ jv = .int .i64 (g : Int) ∧ g ≤ x.length ∧ rr ≤ 20000 ∧ Hid (g = 0 → rr = r) ∧ Hid (Str p wr (yH G (fun k => jW (p.lf k) i d deep r s x g)) aa1) ∧ Hid (Stp p aa w aa1 wr)) (fun _ jv _ => x.length - (intOf jv).toNat)
  case atStart => exact ⟨0, aa, r, rfl, rfl, zLU _, hr, zH (fun _ => rfl), zH (HQ.out.congr (fun k _ => by simp [yH, jW])), zH (Stp.below (b0 w))⟩
  case round =>
   obtain ⟨g, aa1, rr, rfl, rfl, hg, hrr, HR, HS, HT⟩ := hrel
   by_cases hlt : g < x.length
   ·have hsl1 := HSL.out.go (ok' := fun b => b < p.B0) HT.out.1 (fun b _ hb => ⟨HQ.out.low hb, hb⟩) (by decide)
    have hrw1 := HRW.out.go (ok' := fun b => b < p.B0) HT.out.1 (fun b _ hb => ⟨HQ.out.low hb, hb⟩)
    obtain ⟨xb, xo, rfl, hxb', hxc⟩ := hsl1.pos (by omega)
    obtain ⟨ya, ycap, y0, y1, y2, hyt⟩ := zAr hrw1 g hlt
    have c0 := hxc _ _ y0; have c1 := hxc _ _ y1; have c2 := hxc _ _ y2
    rw [← zLS] at c1 c2
    have HST := zH (HSH.out _ (zLR hlt))
    have HFG := zH (HFN.out g hlt)
    have HYT := zH hyt
    have hgl : (g : Int) < (x.length : Int) := by omega
    generalize x[g] = y at *
    clear hsl1 hrw1 hxc y0 y1 y2 hyt
    by_cases hg0 : g = 0
    ·subst hg0
     simp only [zLW, zLX] at c0 c1 c2
     go_wp2_with fail
     refine zGl (fun w1 hw1 => ?_)
     have hb1 : Below wr.heap.size wr w1 := by rw [hw1]; exact ba (b0 _) _
     clear hw1
     (try rw [ED.out]); (try rw [EE.out])
     refine (HV.out i y ya ycap rr (d + 1) deep w1 _ aa1 HX.out hn HG.out (HS.out.below hb1) HST.out (HYT.out.go (chF hb1) (fun b _ hb => ⟨fun h => h, hb⟩)) hrr (by omega) (by omega)).mono ?_
     rintro e w2 ⟨rfl, aa2, hs2, ht2⟩
     have HS2 := zH (hs2.congr (G' := yH G (fun k => jW (p.lf k) i d deep r s x (0 + 1))) (fun k _ => by
      rw [HFG.out, HR.out (by simp)]; unfold yH; simp))
     have HT2 := zH ((HT.out.trans (Stp.below hb1)).trans ht2)
     clear hs2 ht2 hb1 c0 c1 c2
     go_wp2_with fail
     go_roundw
     case rel => exact ⟨0 + 1, aa2, rr, rfl, by go_num, by omega, hrr, zH (fun h => by omega), HS2, HT2⟩
     case measure => simp [intOf]; omega
    ·have hgi : (g : Int) > 0 := by omega
     go_wp2_with fail
     refine zGl (fun w1 hw1 => ?_)
     have hb1 : Below wr.heap.size wr w1 := by rw [hw1]; exact ba (b0 _) _
     clear hw1
     (try rw [ED.out]); (try rw [EE.out])
     refine (HV.out i y ya ycap deep (d + 1) deep w1 _ aa1 HX.out hn HG.out (HS.out.below hb1) HST.out (HYT.out.go (chF hb1) (fun b _ hb => ⟨fun h => h, hb⟩)) (show _ ≤ 20000 by omega) (by omega) (by omega)).mono ?_
     rintro e w2 ⟨rfl, aa2, hs2, ht2⟩
     have HS2 := zH (hs2.congr (G' := yH G (fun k => jW (p.lf k) i d deep r s x (g + 1))) (fun k _ => by
      rw [HFG.out]; unfold yH; rw [if_neg hg0, zLT]))
     have HT2 := zH ((HT.out.trans (Stp.below hb1)).trans ht2)
     clear hs2 ht2 hb1 c0 c1 c2
     go_wp2_with fail
     go_roundw
     case rel =>
      refine ⟨g + 1, aa2, deep, ?_, ?_, by omega, ?_, zH (fun h => by omega), HS2, HT2⟩
      ·first | rfl | go_num
      ·go_num
      ·omega
     case measure => simp [intOf]; omega
   ·obtain rfl : g = x.length := by omega
    go_wp2_with fail
    refine bodyPost_end (v := .tuple #[]) (by simp [results, Try.results74, go_sem]) rfl ?_
    refine ⟨rfl, aa1, HS.out.congr (fun k _ => ?_), HT.out⟩
    unfold yH
    dsimp only
    rw [zBw HX0.out]
 ·simp only [dmI, rmI] at hD hE
  simp at hD hE
  have hD' := hD.symm
  have hE' := hE.symm
  clear hD hE
  subst hD'
  subst hE'
  have eD : ((d : Int) + 1) = ((d + 1 : Nat) : Int) := rfl
  have eE : ((deep : Int) + 1) = ((deep + 1 : Nat) : Int) := rfl
  have ED := zH eD; have EE := zH eE
  clear eD eE
  go_wp2_with fail
  clear q0 f1
  go_loopw [3, 61] (fun rv jv wr => ∃ (g : Nat) (aa1 : Nat → Option Addr) (rr : Nat), rv = .int .i64 (rr : Int) ∧ jv = .int .i64 (g : Int) ∧ g ≤ x.length ∧ rr ≤ 20000 ∧ Hid (g = 0 → rr = r) ∧ Hid (Str p wr (yH G (fun k => jW (p.lf k) i d deep r s x g)) aa1) ∧ Hid (Stp p aa w aa1 wr)) (fun _ jv _ => x.length - (intOf jv).toNat)
  case atStart => exact ⟨0, aa, r, rfl, rfl, zLU _, hr, zH (fun _ => rfl), zH (HQ.out.congr (fun k _ => by simp [yH, jW])), zH (Stp.below (b0 w))⟩
  case round =>
   obtain ⟨g, aa1, rr, rfl, rfl, hg, hrr, HR, HS, HT⟩ := hrel
   by_cases hlt : g < x.length
   ·have hsl1 := HSL.out.go (ok' := fun b => b < p.B0) HT.out.1 (fun b _ hb => ⟨HQ.out.low hb, hb⟩) (by decide)
    have hrw1 := HRW.out.go (ok' := fun b => b < p.B0) HT.out.1 (fun b _ hb => ⟨HQ.out.low hb, hb⟩)
    obtain ⟨xb, xo, rfl, hxb', hxc⟩ := hsl1.pos (by omega)
    obtain ⟨ya, ycap, y0, y1, y2, hyt⟩ := zAr hrw1 g hlt
    have c0 := hxc _ _ y0; have c1 := hxc _ _ y1; have c2 := hxc _ _ y2
    rw [← zLS] at c1 c2
    have HST := zH (HSH.out _ (zLR hlt))
    have HFG := zH (HFN.out g hlt)
    have HYT := zH hyt
    have hgl : (g : Int) < (x.length : Int) := by omega
    generalize x[g] = y at *
    clear hsl1 hrw1 hxc y0 y1 y2 hyt
    by_cases hg0 : g = 0
    ·subst hg0
     simp only [zLW, zLX] at c0 c1 c2
     go_wp2_with fail
     refine zGl (fun w1 hw1 => ?_)
     have hb1 : Below wr.heap.size wr w1 := by rw [hw1]; exact ba (b0 _) _
     clear hw1
     (try rw [ED.out]); (try rw [EE.out])
     refine (HV.out i y ya ycap rr (d + 1) (deep + 1) w1 _ aa1 HX.out hn HG.out (HS.out.below hb1) HST.out (HYT.out.go (chF hb1) (fun b _ hb => ⟨fun h => h, hb⟩)) hrr (by omega) (by omega)).mono ?_
     rintro e w2 ⟨rfl, aa2, hs2, ht2⟩
     have HS2 := zH (hs2.congr (G' := yH G (fun k => jW (p.lf k) i d deep r s x (0 + 1))) (fun k _ => by
      rw [HFG.out, HR.out (by simp)]; unfold yH; simp))
     have HT2 := zH ((HT.out.trans (Stp.below hb1)).trans ht2)
     clear hs2 ht2 hb1 c0 c1 c2
     go_wp2_with fail
     go_roundw
     case rel => exact ⟨0 + 1, aa2, rr, rfl, by go_num, by omega, hrr, zH (fun h => by omega), HS2, HT2⟩
     case measure => simp [intOf]; omega
    ·have hgi : (g : Int) > 0 := by omega
     go_wp2_with fail
     refine zGl (fun w1 hw1 => ?_)
     have hb1 : Below wr.heap.size wr w1 := by rw [hw1]; exact ba (b0 _) _
     clear hw1
     (try rw [ED.out]); (try rw [EE.out])
     refine (HV.out i y ya ycap (deep + 1) (d + 1) (deep + 1) w1 _ aa1 HX.out hn HG.out (HS.out.below hb1) HST.out (HYT.out.go (chF hb1) (fun b _ hb => ⟨fun h => h, hb⟩)) (show _ ≤ 20000 by omega) (by omega) (by omega)).mono ?_
     rintro e w2 ⟨rfl, aa2, hs2, ht2⟩
     have HS2 := zH (hs2.congr (G' := yH G (fun k => jW (p.lf k) i d deep r s x (g + 1))) (fun k _ => by
      rw [HFG.out]; unfold yH; rw [if_neg hg0, zLT]))
     have HT2 := zH ((HT.out.trans (Stp.below hb1)).trans ht2)
     clear hs2 ht2 hb1 c0 c1 c2
     go_wp2_with fail
     go_roundw
     case rel =>
      refine ⟨g + 1, aa2, (deep + 1), ?_, ?_, by omega, ?_, zH (fun h => by omega), HS2, HT2⟩
      ·first | rfl | go_num
      ·go_num
      ·omega
     case measure => simp [intOf]; omega
   ·obtain rfl : g = x.length := by omega
    go_wp2_with fail
    refine bodyPost_end (v := .tuple #[]) (by simp [results, Try.results74, go_sem]) rfl ?_
    refine ⟨rfl, aa1, HS.out.congr (fun k _ => ?_), HT.out⟩
    unfold yH
    dsimp only
    rw [zBw HX0.out]
end Go.Proofs.Ytjbkjfefjhbolaa
