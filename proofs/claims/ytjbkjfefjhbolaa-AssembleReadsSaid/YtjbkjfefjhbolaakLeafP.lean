import Derived.Test.YtjbkjfefjhbolaakMake8
set_option linter.all false
open List renaming length_filter_le → zLP, getD_eq_getElem?_getD → zLQ, length_cons → zLR, filter_cons_of_pos → zLS, filter_cons_of_neg → zLT, filter_append → zLU
namespace Go.Proofs.Ytjbkjfefjhbolaa
open Go.RowKit Go.Shr
def flN (l : List Fl) (i : Nat) : Fl := l.getD i Fl.none
theorem qS {l : List Fl} {i : Nat} (h : i < l.length) : flN l i = l[i] := by simp [flN, List.getD, h]
def cnt (f : Nat → Bool) (P : List Int) (m a : Nat) : Nat := ((List.range m).filter fun j => f j && P.getD j (-1) == (a : Int)).length
section
variable {f : Nat → Bool} {l : List Fl} {m k : Nat} {c c' : Nat → Int}
end
theorem zCo : (Try.prog.info? 52).map (fun i => (i.zero, i.size, i.bytes)) = some (some (.agg #[.int .i64 0, .int .i64 0, .int .i64 0, .int .i64 0]), 4, 32) := by kernel_rfl
def zAj (l : List Fl) (c : List Nat) : Nat := (c.filter fun k => (flN l k).rep == 2).length
def zBh (l : List Fl) (c : List Nat) : Nat := (c.filter fun k => (flN l k).rep != 0).length
theorem jI (l : List Fl) (k : Nat) (c : List Nat) : zAj l (k :: c) = (if (flN l k).rep = 2 then 1 else 0) + zAj l c := by
 unfold zAj
 by_cases h : (flN l k).rep = 2
 ·rw [if_pos h, zLS (by simp [h]), zLR]; omega
 ·rw [if_neg h, zLT (by simp [h])]; omega
theorem zAq (l : List Fl) (k : Nat) (c : List Nat) : zBh l (k :: c) = (if (flN l k).rep = 0 then 0 else 1) + zBh l c := by
 unfold zBh
 by_cases h : (flN l k).rep = 0
 ·rw [if_pos h, zLT (by simp [h])]; omega
 ·rw [if_neg h, zLS (by simp [h]), zLR]; omega
def lvR (l : List Fl) (i : Nat) : Nat := zAj l (Go.Shr.chain (par l) i)
def lvD (l : List Fl) (i : Nat) : Nat := zBh l (Go.Shr.chain (par l) i)
def zG (l : List Fl) (m : Nat) : List Nat := (List.range m).filter fun i => (flN l i).kind != 0
def lvs (l : List Fl) (q : List Nat) : List Value := q.flatMap fun (i : Nat) => [.int .i64 (i : Int), .int .i64 (lvR l i : Int), .int .i64 (lvD l i : Int), .int .i64 (flN l i).kind]
theorem zJ4 (l : List Fl) (q : List Nat) : (lvs l q).length = q.length * 4 := by
 induction q with
 | nil => rfl
 | cons x q ih => simp [lvs] at ih ⊢; omega
theorem zBf (l : List Fl) : ∀ (q : List Nat) (k : Nat) (h : k < q.length), (lvs l q)[k * 4]? = some (.int .i64 (q[k] : Int)) ∧ (lvs l q)[k * 4 + 1]? = some (.int .i64 (lvR l q[k] : Int)) ∧ (lvs l q)[k * 4 + 2]? = some (.int .i64 (lvD l q[k] : Int)) ∧ (lvs l q)[k * 4 + 3]? = some (.int .i64 (flN l q[k]).kind)
 | x :: q, 0, _ => by simp [lvs]
 | x :: q, k + 1, h => by
  have := zBf l q k (by simpa using h)
  rw [show (k + 1) * 4 = k * 4 + 1 + 1 + 1 + 1 by omega]
  simpa [lvs] using this
theorem zCg (l : List Fl) (q : List Nat) (i : Nat) : lvs l (q ++ [i]) = lvs l q ++ [.int .i64 (i : Int), .int .i64 (lvR l i : Int), .int .i64 (lvD l i : Int), .int .i64 (flN l i).kind] := by simp [lvs]
theorem xQ {l : List Fl} {m : Nat} (h : (flN l m).kind ≠ 0) : zG l (m + 1) = zG l m ++ [m] := by unfold zG; rw [List.range_succ, zLU]; simp [h]
theorem jC {l : List Fl} {m : Nat} (h : (flN l m).kind = 0) : zG l (m + 1) = zG l m := by unfold zG; rw [List.range_succ, zLU]; simp [h]
theorem yW {l : List Fl} {m : Nat} : (zG l m).length ≤ m := by unfold zG; exact Nat.le_trans (zLP _ _) (by simp)
theorem xJ (P : List Int) : ∀ i, (Go.Shr.chain P i).length ≤ i + 1 := by
 intro i
 induction i using Nat.strongRecOn with
 | _ i ih =>
  rw [Go.Shr.chain]
  split
  ·rename_i h
   have := ih _ h.2
   rw [zLR]; omega
  ·simp
theorem zAE (l : List Fl) (c : List Nat) : zAj l c ≤ c.length := zLP _ _
theorem zCp (l : List Fl) (c : List Nat) : zBh l c ≤ c.length := zLP _ _
set_option maxHeartbeats 1000000 in
set_option maxRecDepth 100000 in
theorem zIZ (sa : Option Addr) (sc : Nat) (l : List Fl) (w : World) (hs : Sl (fun b => b < w.heap.size) w 4 sa l.length sc (fls l)) (hn : l.length ≤ 1000) (hkid : ∀ x ∈ l, x.kids ≤ 1000) :
  Calls Try.prog 19 #[.slice sa l.length sc] w fun e w' => ∃ a c, e = .returned (.slice a (zG l l.length).length c) ∧ Own w.heap.size w' 52 4 a (zG l l.length).length c (lvs l (zG l l.length)) ∧ Below w.heap.size w w' := by
 obtain ⟨iL, hiL, hz0L, hz1L, hz2L⟩ := info_parts zCo
 have HPL := zH (zW l)
 have HS := zH hs; have HK := zH hkid
 clear hs hkid
 go_enter Try.func19, Try.ntmps19
 go_wp2_with fail
 refine ((zBu sa l.length sc l w HS.out (by omega) HK.out).mono ?_)
 rintro e w1 ⟨aP, cP, rfl, hp, hb⟩
 have HP := zH (hp.own.sl.mono (ok' := fun b => b < w1.heap.size) (fun k hk _ => hk) (by decide))
 have HB1 := zH hb
 clear hp hb
 go_wp2_with fail
 go_loopw [4, 5] (fun vo iv wr => ∃ (i : Nat) (aO : Option Addr) (cO : Nat), vo = .slice aO (zG l i).length cO ∧ iv = .int .i64 (i : Int) ∧ i ≤ l.length ∧ Hid (Own w1.heap.size wr 52 4 aO (zG l i).length cO (lvs l (zG l i))) ∧ Hid (Below w1.heap.size w1 wr)) (fun _ iv _ => l.length - (intOf iv).toNat)
 case atStart => exact ⟨0, none, 0, rfl, rfl, Nat.zero_le _, zH (Own.nil _ _ _ _), zH (b0 w1)⟩
 case round =>
  obtain ⟨i, aO, cO, rfl, rfl, hi, HO, HB⟩ := hrel
  have hszr := HB.out.size
  by_cases hil : i < l.length
  ·have HS1 := slb HS.out HB1.out
   obtain ⟨bs, os, rfl, hbs, hsc⟩ := HS1.pos (by omega)
   obtain ⟨bp, op, rfl, hbp, hpc⟩ := HP.out.pos (by omega)
   have HSC := zH hsc; have HPC := zH hpc
   clear hsc hpc HS1
   obtain ⟨_, _, f2, _⟩ := yB l i hil
   have c2 := cb HB.out (HSC.out _ _ f2)
   rw [← Nat.add_assoc] at c2
   have HFN := zH (qS hil)
   have HKD : Hid ((flN l i).kind = l[i].kind) := zH (by rw [HFN.out])
   generalize l[i].kind = kd at *
   clear f2 HFN
   by_cases hk0 : kd = 0
   ·subst hk0
    have HLN := zH (jC (l := l) (m := i) HKD.out)
    go_wp2_with fail
    go_roundw
    case rel => exact ⟨i + 1, aO, cO, by rw [HLN.out], by go_num, by omega, zH (by rw [HLN.out]; exact HO.out), HB⟩
    case measure => simp [intOf]; omega
   ·have HLY := zH (xQ (l := l) (m := i) (by rw [HKD.out]; exact hk0))
    have hkb : (kd == 0) = false := beq_eq_false_iff_ne.2 hk0
    have hll : (zG l i).length ≤ i := yW
    clear hk0
    go_upto_block 2 with fail
    generalize hw2 : wr.alloc (.cells #[.int .i64 (i : Int), .int .i64 0, .int .i64 0, .int .i64 kd] 52) = w2
    have rX := zH (show Rw w2 wr.heap.size #[.int .i64 (i : Int), .int .i64 0, .int .i64 0, .int .i64 kd] 52 by rw [← hw2]; exact Rw.new wr _ _)
    have hb2 : Below w1.heap.size w1 w2 := by rw [← hw2]; exact ba HB.out _
    have HB2 := zH hb2
    have HO2 := zH (show Own w1.heap.size w2 52 4 aO (zG l i).length cO (lvs l (zG l i)) by rw [← hw2]; exact HO.out.alloc _)
    have HN2 : Hid (cO = 0 ∨ ∀ k, blk aO k → k ≠ wr.heap.size) := zH (HO.out.row.imp id (fun ⟨g, cur, e, _, hg, _⟩ k ⟨_, _, e2⟩ => by rw [e] at e2; cases e2; exact Nat.ne_of_lt (Array.getElem?_eq_some_iff.1 hg).1))
    have hzx : w2.heap.size = wr.heap.size + 1 := by rw [← hw2]; simp
    have HZX := zH hzx
    have hxs : wr.heap.size < w2.heap.size := by omega
    have hx1 : w1.heap.size ≤ wr.heap.size := hszr
    generalize wr.heap.size = bx at *
    clear hw2 hb2 HO HB c2 hzx hszr
    go_cut [7] from 30 to 55 (fun _ wc => Hid (Rw wc bx #[.int .i64 (i : Int), .int .i64 (lvR l i : Int), .int .i64 (lvD l i : Int), .int .i64 kd] 52) ∧ Hid (Chg (fun b => b = bx) w2 wc))
    case first =>
     go_wp2_with fail
     go_loopw [7] (fun zv wk => ∃ (z : Int) (r d : Nat), zv = .int .i64 z ∧ -1 ≤ z ∧ z < (l.length : Int) ∧ r ≤ 1000 ∧ d ≤ 1000 ∧ Hid (r + zAj l (yD (par l) z) = lvR l i ∧ d + zBh l (yD (par l) z) = lvD l i) ∧ Hid (Rw wk bx #[.int .i64 (i : Int), .int .i64 (r : Int), .int .i64 (d : Int), .int .i64 kd] 52) ∧ Hid (Chg (fun b => b = bx) w2 wk)) (fun zv _ => (intOf zv + 1).toNat)
     case atStart => exact ⟨_, 0, 0, rfl, by omega, by omega, by omega, by omega, zH (by rw [yF]; unfold lvR lvD; omega), rX, zH (Chg.refl _ _)⟩
     case round =>
      clear rX
      obtain ⟨z, r, d, rfl, hz1, hz2, hr, hd, HX, RX, HC⟩ := hrel
      by_cases hz : z < 0
      ·have HE : Hid (lvR l i = r ∧ lvD l i = d) := zH (by
        have := HX.out
        rw [qC _ hz] at this
        simp only [zAj, zBh, List.filter_nil, List.length_nil] at this
        omega)
       clear HX
       go_wp2_with fail
       go_meet
       case rel => exact ⟨by rw [HE.out.1, HE.out.2]; exact RX, HC⟩
      ·obtain ⟨k, rfl⟩ : ∃ k : Nat, z = k := ⟨z.toNat, by omega⟩
       have hk : k < l.length := by omega
       have hki : k < (par l).length := by rw [HPL.out]; exact hk
       have hbW : Below w1.heap.size w1 wr := Chg.bt HB2.out HC.out (fun b hb e => by have e' : b = bx := e; omega)
       have q0 := cb hbW (HPC.out _ _ (zO (par l) k hki))
       have hqb := yI l k hki
       obtain ⟨_, g1, _, _⟩ := yB l k hk
       have q1 := cb hbW (HSC.out _ _ g1)
       rw [← Nat.add_assoc] at q1
       have HX2 : Hid ((r + ((if (flN l k).rep = 2 then 1 else 0) + zAj l (yD (par l) (par l)[k])) = lvR l i) ∧ (d + ((if (flN l k).rep = 0 then 0 else 1) + zBh l (yD (par l) (par l)[k])) = lvD l i)) := zH (by
        have := HX.out
        rw [yF, xU (fun j hj => yI l j hj) hki, jI, zAq] at this
        exact this)
       have hr1 : lvR l i ≤ 1000 := by
        have h1 := zAE l (Go.Shr.chain (par l) i)
        have h2 := xJ (par l) i
        unfold lvR; omega
       have hd1 : lvD l i ≤ 1000 := by
        have h1 := zCp l (Go.Shr.chain (par l) i)
        have h2 := xJ (par l) i
        unfold lvD; omega
       rw [qS hk] at HX2
       have x1 : wr.cell? ⟨bx, 1, none⟩ = some (.int .i64 (r : Int)) := RX.out.cell 1
       have x2 : wr.cell? ⟨bx, 2, none⟩ = some (.int .i64 (d : Int)) := RX.out.cell 2
       have xf := RX.out.frozen
       have xl := RX.out.lt
       have HNB : Hid (bs < w1.heap.size ∧ bp < w1.heap.size) := zH ⟨hbs, hbp⟩
       generalize (par l)[k] = q at *
       generalize l[k].rep = rp at *
       clear HX g1 hbW
       have hbsx : bs ≠ bx := by omega
       have hbpx : bp ≠ bx := by omega
       by_cases h2 : rp = 2
       ·subst h2
        have HX3 : Hid (r + 1 + zAj l (yD (par l) q) = lvR l i ∧ d + 1 + zBh l (yD (par l) q) = lvD l i) := zH (by
         have := HX2.out
         rw [if_pos rfl, if_neg (by decide)] at this
         omega)
        have hr2 : r + 1 ≤ 1000 := by have := HX3.out; omega
        have hd2 : d + 1 ≤ 1000 := by have := HX3.out; omega
        clear HX2
        go_wp2_with fail
        go_roundw
        case rel =>
         refine ⟨q, r + 1, d + 1, rfl, by omega, by omega, hr2, hd2, HX3, zH ?_, zH ((HC.out.setCell (p := ⟨bx, 1, none⟩) (.inr rfl) _).setCell (p := ⟨bx, 2, none⟩) (.inr rfl) _)⟩
         have h := (RX.out.set 1 (.int .i64 ((r : Int) + 1))).set 2 (.int .i64 ((d : Int) + 1))
         simpa using h
        case measure => simp [intOf]; omega
       ·have h2b : (rp == 2) = false := beq_eq_false_iff_ne.2 h2
        by_cases h0 : rp = 0
        ·subst h0
         have HX3 : Hid (r + zAj l (yD (par l) q) = lvR l i ∧ d + zBh l (yD (par l) q) = lvD l i) := zH (by
          have := HX2.out
          rw [if_neg (by decide), if_pos rfl] at this
          omega)
         clear HX2
         go_wp2_with fail
         go_roundw
         case rel => exact ⟨q, r, d, rfl, by omega, by omega, hr, hd, HX3, RX, HC⟩
         case measure => simp [intOf]; omega
        ·have h0b : (rp != 0) = true := by simp [h0]
         have HX3 : Hid (r + zAj l (yD (par l) q) = lvR l i ∧ d + 1 + zBh l (yD (par l) q) = lvD l i) := zH (by
          have := HX2.out
          rw [if_neg h2, if_neg h0] at this
          omega)
         have hd2 : d + 1 ≤ 1000 := by have := HX3.out; omega
         clear HX2 h2 h0
         go_wp2_with fail
         go_roundw
         case rel =>
          refine ⟨q, r, d + 1, rfl, by omega, by omega, hr, hd2, HX3, zH ?_, zH (HC.out.setCell (p := ⟨bx, 2, none⟩) (.inr rfl) _)⟩
          have h := RX.out.set 2 (.int .i64 ((d : Int) + 1))
          simpa using h
         case measure => simp [intOf]; omega
    case rest =>
     obtain ⟨RX, HC⟩ := hcut
     have x0 : wc.cell? ⟨bx, 0, none⟩ = some (.int .i64 (i : Int)) := RX.out.cell 0
     have x1 : wc.cell? ⟨bx, 1, none⟩ = some (.int .i64 (lvR l i : Int)) := RX.out.cell 1
     have x2 : wc.cell? ⟨bx, 2, none⟩ = some (.int .i64 (lvD l i : Int)) := RX.out.cell 2
     have x3 : wc.cell? ⟨bx, 3, none⟩ = some (.int .i64 kd) := RX.out.cell 3
     have HB3 := zH (Chg.bt HB2.out HC.out (fun b hb e => by have e' : b = bx := e; omega))
     have HO3 : Hid (Own w1.heap.size wc 52 4 aO (zG l i).length cO (lvs l (zG l i))) := zH (by
      rcases HN2.out with h | h
      ·exact ⟨HO2.out.len, HO2.out.le, HO2.out.max, .inl h⟩
      ·exact HO2.out.chg HC.out (fun k hk e => h k hk e))
     have hszc := HB3.out.size
     have HTL : Hid (lvs l (zG l (i + 1)) = lvs l (zG l i) ++ #[Value.int .i64 (i : Int), .int .i64 (lvR l i : Int), .int .i64 (lvD l i : Int), .int .i64 kd].toList) := zH (by rw [HLY.out, zCg, HKD.out])
     generalize lvR l i = r at *
     generalize lvD l i = d at *
     have hxl := RX.out.lt
     have tok1 : True := trivial
     go_wp2_with (first | (at_builtin; have _t := tok1; clear tok1; clear _t; refine zI (B := w1.heap.size) rfl _ _ _ _ rfl iL (.agg #[.int .i64 0, .int .i64 0, .int .i64 0, .int .i64 0]) 32 Try.underlying49 hiL hz0L hz1L hz2L rfl rfl (HO3.out.alloc _) _ rfl _ _ (zP (e' := 52) Try.underlying49 wc #[.int .i64 (i : Int), .int .i64 (r : Int), .int .i64 (d : Int), .int .i64 kd] 52 1 4 rfl (by simp [Value.oneCell'])) (by simp only [maxLen]; omega) (by omega) (by first | omega | (simp; omega) | simp) ?_; intro a5 cap5 w5 ho5 hc5 hn5); (have HO5 := zH ho5); (have HC5 := zH hc5); clear ho5 hc5 hn5)
     go_roundw
     case rel => exact ⟨i + 1, a5, cap5, by rw [HLY.out]; simp, by go_num, by omega, zH (by rw [HTL.out, HLY.out, List.length_append]; exact HO5.out), zH (Chg.bt (ba HB3.out _) HC5.out (fun b hb h => by have := h.2.1; omega))⟩
     case measure => simp [intOf]; omega
  ·obtain rfl : i = l.length := by omega
   go_wp2_with fail
   go_ret
   exact ⟨aO, cO, rfl, HO.out.mono HB1.out.size, bt HB1.out HB.out⟩
mutual
theorem zJv {l : List Fl} {K : Int → List Int} : ∀ (s : Sh) (i : Nat), Ix l K i s → zR s → ∀ (j : Nat), i ≤ j → j < i + s.size → ∃ s', Ix l K j s' ∧ zR s'
 | .mk nm r k ks, i, h, hg, j, h1, h2 => by
  by_cases hj : j = i
  ·subst hj; exact ⟨_, h, hg⟩
  ·simp only [Ix] at h
   simp only [zR] at hg
   simp only [Sh.size] at h2
   exact zHv ks (i + 1) h.2.2 hg.2.2.2.2.2.2 j (by omega) (by omega)
theorem zHv {l : List Fl} {K : Int → List Int} : ∀ (ks : List Sh) (i : Nat), IxL l K i ks → yG ks → ∀ (j : Nat), i ≤ j → j < i + zC ks → ∃ s', Ix l K j s' ∧ zR s'
 | [], i, _, _, j, h1, h2 => by simp only [zC] at h2; omega
 | s :: r, i, h, hg, j, h1, h2 => by
  simp only [IxL] at h
  simp only [yG] at hg
  simp only [zC] at h2
  by_cases hj : j < i + s.size
  ·exact zJv s i h.1 hg.1 j h1 hj
  ·exact zHv r (i + s.size) h.2 hg.2 j (by omega) (by omega)
end
theorem Sch.par_kind {l : List Fl} {sh : Sh} (h : Sch l sh) {j k : Nat} (hj : j < l.length) (hp : (par l)[j]? = some (k : Int)) : (flN l k).kind = 0 := by
 obtain ⟨hpl, hpe⟩ := getElem?_par hp
 have hb := yI l j hpl
 rw [hpe] at hb
 have hm : (j : Int) ∈ zK (par l) (k : Int) := by
  simp only [zK, List.mem_map, List.mem_filter, List.mem_range]
  refine ⟨j, ⟨hpl, ?_⟩, rfl⟩
  rw [zLQ, hp]; simp
 obtain ⟨s', h1, h2⟩ := zJv sh 0 h.ix h.good k (by omega) (by have := h.len; omega)
 obtain ⟨nm, r, kd, ks⟩ := s'
 simp only [Ix] at h1
 simp only [zR] at h2
 by_cases hk : kd = 0
 ·have := h1.1
  unfold flN
  rw [zLQ, this]; exact hk
 ·have h3 := h1.2.1
  rw [h2.2.2.2.2.1 hk] at h3
  rw [h3] at hm
  cases hm
theorem Sch.up_kind {l : List Fl} {sh : Sh} (h : Sch l sh) : ∀ (i : Nat), i < l.length → ∀ x ∈ Go.Shr.chain (par l) i, x ≠ i → (flN l x).kind = 0 := by
 intro i
 induction i using Nat.strongRecOn with
 | _ i ih =>
  intro hi x hx hne
  have hpl : i < (par l).length := by rw [zW]; exact hi
  rw [xU (fun j hj => yI l j hj) hpl] at hx
  rcases List.mem_cons.1 hx with hx | hx
  ·exact absurd hx hne
  ·by_cases h0 : (par l)[i] < 0
   ·rw [qC _ h0] at hx; cases hx
   ·obtain ⟨k, hk⟩ : ∃ k : Nat, (par l)[i] = (k : Int) := ⟨(par l)[i].toNat, by omega⟩
    have hb := yI l i hpl
    rw [hk, yF] at hx
    have hkp : (par l)[i]? = some (k : Int) := by rw [List.getElem?_eq_getElem hpl, hk]
    by_cases hxk : x = k
    ·rw [hxk]; exact h.par_kind hi hkp
    ·exact ih k (by omega) (by omega) x hx hxk
theorem Sch.leaf_chain {l : List Fl} {sh : Sh} (h : Sch l sh) {f i : Nat} (hi : i < l.length) (hf : (flN l f).kind ≠ 0) (hm : f ∈ Go.Shr.chain (par l) i) : f = i := by
 by_cases e : f = i
 ·exact e
 ·exact absurd (h.up_kind i hi f hm e) hf
mutual
theorem zEI : ∀ (s : Sh), zR s → ∃ f ∈ flat s, f.kind ≠ 0
 | .mk nm r k ks, h => by
  simp only [zR] at h
  by_cases hk : k = 0
  ·obtain ⟨f, h1, h2⟩ := zGU ks h.2.2.2.2.2.2 (h.2.2.2.2.2.1 hk)
   exact ⟨f, by simp only [flat]; exact List.mem_cons_of_mem _ h1, h2⟩
  ·exact ⟨_, by simp only [flat]; exact List.mem_cons_self, hk⟩
theorem zGU : ∀ (ks : List Sh), yG ks → ks ≠ [] → ∃ f ∈ yR ks, f.kind ≠ 0
 | [], _, h => absurd rfl h
 | s :: r, h, _ => by
  simp only [yG] at h
  obtain ⟨f, h1, h2⟩ := zEI s h.1
  exact ⟨f, by simp only [yR]; exact List.mem_append_left _ h1, h2⟩
end
theorem zAk {l : List Fl} {m i : Nat} : i ∈ zG l m ↔ i < m ∧ (flN l i).kind ≠ 0 := by simp [zG]
theorem Sch.leafs_pos {l : List Fl} {sh : Sh} (h : Sch l sh) : 0 < (zG l l.length).length := by
 obtain ⟨f, h1, h2⟩ := zEI sh h.good
 rw [← h.flat] at h1
 obtain ⟨i, hi, rfl⟩ := List.getElem_of_mem h1
 have : i ∈ zG l l.length := zAk.2 ⟨hi, by rw [qS hi]; exact h2⟩
 cases hl : zG l l.length with
 | nil => rw [hl] at this; cases this
 | cons _ _ => simp
end Go.Proofs.Ytjbkjfefjhbolaa
