import Derived.Test.YtjbkjfefjhbolaakBld16
set_option linter.all false
open And renaming intro → zLP
open List renaming length_append → zLQ
namespace Go.Proofs.Ytjbkjfefjhbolaa
open Go.RowKit Go.Shr
def zCX (r : Int) (R : List Int) (t f k : Nat) : List (Nat × Nat) := if k ≤ t then spl r ((R.take t).drop k) f k else []
theorem zHX {r : Int} {R : List Int} {t f k : Nat} (h : k = t) : zCX r R t f k = [(f, k)] := by
 unfold zCX
 rw [if_pos (by omega), List.drop_of_length_le (by rw [List.length_take]; omega)]; rfl
theorem zFW {r : Int} {R : List Int} {t f k : Nat} (h : t < k) : zCX r R t f k = [] := by unfold zCX; rw [if_neg (by omega)]
theorem zHW {r : Int} {R : List Int} {t f k : Nat} (h : k < t) (ht : t ≤ R.length) : zCX r R t f k = if R[k]'(by omega) ≤ r then (f, k) :: zCX r R t k (k + 1) else zCX r R t f (k + 1) := by
 unfold zCX
 rw [if_pos (by omega), if_pos (show k + 1 ≤ t by omega), if_pos (show k + 1 ≤ t by omega)]
 have hl : k < (R.take t).length := by rw [List.length_take]; omega
 rw [List.drop_eq_getElem_cons hl]
 simp only [spl, List.getElem_take]
def zG6 (q : BQ) (r : Int) (p : Spn) (w : World) (e : Ending) (w' : World) : Prop :=
 ∃ a c, e = .returned (.slice a (zM q r p).length c) ∧ Own w.heap.size w' 99 3 a (zM q r p).length c (qV (zM q r p)) ∧ Below w.heap.size w w'
theorem zH7 (k f t : Nat) (l : List (Nat × Nat)) : ((f, t) :: l).map (fun x => (⟨k, x.1, x.2⟩ : Spn)) = ⟨k, f, t⟩ :: l.map (fun x => (⟨k, x.1, x.2⟩ : Spn)) := rfl
set_option maxHeartbeats 1000000 in
set_option maxRecDepth 100000 in
theorem zHh (q : BQ) (hx : CX q) (p : Spn) (r : Nat) (w : World) (bad : Bool) (hp : zJC q p) (hB : BA q w bad) (hr : r ≤ 1000) :
  Calls Try.prog 44 #[.pointer (some ⟨q.bx, 0, none⟩), .agg #[.int .i64 (p.k : Int), .int .i64 (p.f : Int), .int .i64 (p.t : Int)], .int .i64 (r : Int)] w (zG6 q (r : Int) p w) := by
 obtain ⟨is, his, hz0s, hz1s, hz2s⟩ := info_parts zCn
 obtain ⟨hpk, hft, htl⟩ := hp
 rw [BQ.X_eq hpk] at htl
 have hrd := hx.rd p.k hpk
 obtain ⟨cb0, co, a0, c0, a1, c1, a2, c2, hca, hcok, hc0, hc1, hc2, hcl⟩ := hB.st.colAt hpk hx.m
 have hm3 : p.k < q.m := by rw [← hx.m]; exact hpk
 have hbox4 : w.cell? ⟨q.bx, 4, none⟩ = some (.slice (some ⟨cb0, co, none⟩) q.m q.cc) := by have := hB.row.cell 4; rw [this]; simp [BQ.box, hca]
 have htn : p.t ≤ 1000000 := by omega
 have hrl : (q.L[p.k]).r.length ≤ 1000000 := by omega
 clear hrd
 have HPS : Hid (zM q (r : Int) p = (zCX (r : Int) (q.L[p.k]).r p.t p.f (p.f + 1)).map fun x => (⟨p.k, x.1, x.2⟩ : Spn)) := zH (by unfold zM; rw [BQ.X_eq hpk]; rfl)
 have HPL : Hid ((zM q (r : Int) p).length ≤ 1000001) := zH (by unfold zM; rw [List.length_map, BQ.X_eq hpk]; have := zC9 (r := (r : Int)) (R := (q.L[p.k]).r) (f := p.f) (t := p.t); omega)
 unfold zG6
 generalize hPS : zM q (r : Int) p = PS at *
 clear hPS
 generalize q.L[p.k] = X at *
 have HR := zH hcl.r
 have HB := zH hB
 have HC0 := zH hc0; have HB4 := zH hbox4
 obtain ⟨k, f, t⟩ := p
 dsimp only at *
 clear hB hc1 hc2 hcl hc0 hbox4 hca
 go_enter Try.func44, Try.ntmps44
 go_upto_region 2 with fail
 refine yE (fun w1 hw1 => ?_)
 have hb1 : Below w.heap.size w w1 := by rw [hw1]; exact ba (b0 w) _
 have r4 : Rw w1 w.heap.size #[.int .i64 (k : Int), .int .i64 (f : Int), .int .i64 (t : Int)] 99 := by rw [hw1]; exact Rw.new w _ _
 clear hw1
 have k0 : w1.cell? ⟨w.heap.size, 0, none⟩ = some (.int .i64 (k : Int)) := r4.cell 0
 have k1 : w1.cell? ⟨w.heap.size, 1, none⟩ = some (.int .i64 (f : Int)) := r4.cell 1
 have k2 : w1.cell? ⟨w.heap.size, 2, none⟩ = some (.int .i64 (t : Int)) := r4.cell 2
 have HK := zH (zLP k0 k2)
 have HB1 := zH hb1
 clear r4 hb1
 go_wp2_with fail
 clear k0 k1 k2
 go_loopw [7, 8, 9] (fun ov fv kv wr => ∃ (done : List Spn) (f' k' : Nat) (a : Option Addr) (c : Nat), ov = .slice a done.length c ∧ fv = .int .i64 (f' : Int) ∧ kv = .int .i64 (k' : Int) ∧ f' < k' ∧ k' ≤ t + 1 ∧ done.length ≤ 1000001 ∧ Hid (PS = done ++ (zCX (r : Int) X.r t f' k').map fun x => (⟨k, x.1, x.2⟩ : Spn)) ∧ Hid (Own w1.heap.size wr 99 3 a done.length c (qV done)) ∧ Hid (Below w1.heap.size w1 wr)) (fun _ _ kv _ => t + 1 - (intOf kv).toNat)
 case atStart => exact ⟨[], f, f + 1, none, 0, rfl, rfl, by go_num, by omega, by omega, by simp, zH (by rw [HPS.out]; rfl), zH (Own.nil _ _ _ _), zH (b0 w1)⟩
 case round =>
  obtain ⟨done, f', k', a, c, rfl, rfl, rfl, hfk, hkt, hdl, HD, HO, HBr⟩ := hrel
  have j0 := cb HBr.out HK.out.1
  have j2 := cb HBr.out HK.out.2
  by_cases hk : k' ≤ t
  rotate_left
  ·have hPD : PS = done := by have h := HD.out; rw [zFW (by omega)] at h; simpa using h
   have HPD := zH hPD
   clear hPD
   have hkn : ¬ (k' : Int) ≤ (t : Int) := by omega
   go_wp2_with fail
   go_ret
   have hpd := HPD.out
   subst hpd
   exact ⟨a, c, rfl, HO.out.mono (by have := HB1.out.size; omega), bt HB1.out HBr.out⟩
  have hk' : (k' : Int) ≤ (t : Int) := by omega
  by_cases hkt : k' = t
  ·have HPD : Hid (PS = done ++ [⟨k, f', k'⟩]) := zH (by have h := HD.out; rw [zHX hkt] at h; exact h)
   have hd1 : done.length + 1 ≤ 1000001 := by have h := HPL.out; rw [HPD.out] at h; simpa using h
   have e1 : ((k' : Int) == (t : Int)) = true := by simp; omega
   have hkn : ¬ (k' : Int) + 1 ≤ (t : Int) := by omega
   clear hkt HD
   go_upto_region 6 with fail
   have HJ := zH (zLP j0 j2)
   clear j0 j2
   refine zF (fun w' => w'.cell? ⟨w.heap.size, 2, none⟩ = some (.int .i64 (t : Int))) [] (by decide +kernel) ?g38rgS (fun hHeld => ?g38rgR)
   case g38rgS => (try dsimp only); (exact HJ.out.2)
   try dsimp only at hHeld
   repeat' first
    | exact zA.nil
    | (refine zD [0, 1, 2, 3, 4, 5, 6, 7, 8, 9, 10, 11, 12, 13, 14, 15, 16, 17, 18, 19] 0 (by decide +kernel) (fun _ _ _ _ _ h => h) (by assumption) ?_; (iterate 20 ((first | (refine YA.skip rfl (by rfl) ?_) | (apply YA.take rfl (by rfl); case hy => intro w hSw; (try dsimp only at hSw); go_simp; try with_reducible rfl)); try simp only [pD])); refine YA.nil ?_)
    | (refine zE (by decide +kernel) ?_)
   clear hHeld e1
   have j0 : wr.drew.cell? ⟨w.heap.size, 0, none⟩ = some (.int .i64 (k : Int)) := HJ.out.1
   have HOO := zH (HO.out.drew)
   have tok1 : True := trivial
   have hsz := HBr.out.size
   go_wp2_with (first | (at_builtin; have _t := tok1; clear tok1; clear _t; refine zI (B := w1.heap.size) rfl _ _ _ _ rfl is (.agg #[.int .i64 0, .int .i64 0, .int .i64 0]) 24 Try.underlying96 his hz0s hz1s hz2s rfl rfl (HOO.out.alloc _) _ rfl _ _ (zP (e' := 99) Try.underlying96 wr.drew #[.int .i64 (k : Int), .int .i64 (f' : Int), .int .i64 (k' : Int)] 99 1 3 rfl (by simp [Value.oneCell'])) (by simp only [maxLen]; omega) (by omega) (by first | omega | (simp; omega) | simp) ?_; intro a5 cap5 w5 ho5 hc5 hn5); (have HO5 := zH ho5); (have HC5 := zH hc5); clear ho5 hc5 hn5)
   go_roundw
   case rel =>
    refine ⟨done ++ [⟨k, f', k'⟩], k', k' + 1, a5, cap5, by simp, rfl, by go_num, by omega, by omega, by simp; omega, zH ?_, zH ?_, zH ?_⟩
    ·rw [HPD.out, zFW (by omega)]; simp
    ·rw [zCu, zLQ]; exact HO5.out
    ·exact Chg.bt (ba HBr.out.drew (.cells #[.int .i64 (k : Int), .int .i64 (f' : Int), .int .i64 (k' : Int)] 99)) HC5.out (fun b hb h => by omega)
   case measure => simp [intOf]; omega
  ·have hlt : k' < t := by omega
   have hlx : k' < X.r.length := by omega
   have e1 : ((k' : Int) == (t : Int)) = false := by simp; omega
   have hb1w := HBr.out
   have m4 := cb HBr.out (cb HB1.out HB4.out)
   have m0 := cb HBr.out (cb HB1.out HC0.out)
   obtain ⟨rb, ro, hra, _, hrc⟩ := HR.out.pos (by omega)
   subst hra
   have mR := cb HBr.out (cb HB1.out (hrc k' _ (zO X.r k' hlx)))
   have HST : Hid (zCX (r : Int) X.r t f' k' = if X.r[k'] ≤ (r : Int) then (f', k') :: zCX (r : Int) X.r t k' (k' + 1) else zCX (r : Int) X.r t f' (k' + 1)) := zH (zHW hlt htl)
   generalize X.r[k'] = z at *
   have HJ := zH (zLP j0 (zLP j2 (zLP m4 (zLP m0 mR))))
   clear hrc hkt hb1w
   by_cases hz : z ≤ (r : Int)
   ·have HPD : Hid (PS = (done ++ [⟨k, f', k'⟩]) ++ (zCX (r : Int) X.r t k' (k' + 1)).map fun x => (⟨k, x.1, x.2⟩ : Spn)) := zH (by
     have h := HD.out; rw [HST.out, if_pos hz] at h; rw [h, zH7]; simp)
    have hd1 : done.length + 1 ≤ 1000001 := by have h := HPL.out; rw [HPD.out] at h; simp at h; omega
    clear HD HST
    go_upto_region 6 with fail
    clear j0 j2 m4 m0 mR
    refine zF (fun w' => w'.cell? ⟨w.heap.size, 0, none⟩ = some (.int .i64 (k : Int)) ∧ w'.cell? ⟨w.heap.size, 2, none⟩ = some (.int .i64 (t : Int)) ∧ w'.cell? ⟨q.bx, 4, none⟩ = some (.slice (some ⟨cb0, co, none⟩) q.m q.cc) ∧ w'.cell? ⟨cb0, co + k * 3, none⟩ = some (.slice (some ⟨rb, ro, none⟩) X.r.length c0) ∧ w'.cell? ⟨rb, ro + k', none⟩ = some (.int .i64 z)) [] (by decide +kernel) ?g39rgS (fun hHeld => ?g39rgR)
    case g39rgS => (try dsimp only); (exact HJ.out)
    try dsimp only at hHeld
    repeat' first
     | exact zA.nil
     | (refine zD [0, 1, 2, 3, 4, 5, 6, 7, 8, 9, 10, 11, 12, 13, 14, 15, 16, 17, 18, 19] 0 (by decide +kernel) (fun _ _ _ _ _ h => h) (by assumption) ?_; (iterate 20 ((first | (refine YA.skip rfl (by rfl) ?_) | (apply YA.take rfl (by rfl); case hy => rintro w ⟨s0, s2, s4, sc, sr⟩; go_simp; try with_reducible rfl)); try simp only [pD])); refine YA.nil ?_)
     | (refine zE (by decide +kernel) ?_)
    clear hHeld e1
    have j0 : wr.drew.cell? ⟨w.heap.size, 0, none⟩ = some (.int .i64 (k : Int)) := HJ.out.1
    have HOO := zH (HO.out.drew)
    have tok1 : True := trivial
    have hsz := HBr.out.size
    go_wp2_with (first | (at_builtin; have _t := tok1; clear tok1; clear _t; refine zI (B := w1.heap.size) rfl _ _ _ _ rfl is (.agg #[.int .i64 0, .int .i64 0, .int .i64 0]) 24 Try.underlying96 his hz0s hz1s hz2s rfl rfl (HOO.out.alloc _) _ rfl _ _ (zP (e' := 99) Try.underlying96 wr.drew #[.int .i64 (k : Int), .int .i64 (f' : Int), .int .i64 (k' : Int)] 99 1 3 rfl (by simp [Value.oneCell'])) (by simp only [maxLen]; omega) (by omega) (by first | omega | (simp; omega) | simp) ?_; intro a5 cap5 w5 ho5 hc5 hn5); (have HO5 := zH ho5); (have HC5 := zH hc5); clear ho5 hc5 hn5)
    go_roundw
    case rel =>
     refine ⟨done ++ [⟨k, f', k'⟩], k', k' + 1, a5, cap5, by simp, rfl, by go_num, by omega, by omega, by simp; omega, zH HPD.out, zH ?_, zH ?_⟩
     ·rw [zCu, zLQ]; exact HO5.out
     ·exact Chg.bt (ba HBr.out.drew (.cells #[.int .i64 (k : Int), .int .i64 (f' : Int), .int .i64 (k' : Int)] 99)) HC5.out (fun b hb h => by omega)
    case measure => simp [intOf]; omega
   ·have HPD : Hid (PS = done ++ (zCX (r : Int) X.r t f' (k' + 1)).map fun x => (⟨k, x.1, x.2⟩ : Spn)) := zH (by
     have h := HD.out; rw [HST.out, if_neg hz] at h; exact h)
    clear HD HST
    go_upto_region 6 with fail
    clear j0 j2 m4 m0 mR
    refine zF (fun w' => w'.cell? ⟨w.heap.size, 0, none⟩ = some (.int .i64 (k : Int)) ∧ w'.cell? ⟨w.heap.size, 2, none⟩ = some (.int .i64 (t : Int)) ∧ w'.cell? ⟨q.bx, 4, none⟩ = some (.slice (some ⟨cb0, co, none⟩) q.m q.cc) ∧ w'.cell? ⟨cb0, co + k * 3, none⟩ = some (.slice (some ⟨rb, ro, none⟩) X.r.length c0) ∧ w'.cell? ⟨rb, ro + k', none⟩ = some (.int .i64 z)) [] (by decide +kernel) ?g40rgS (fun hHeld => ?g40rgR)
    case g40rgS => (try dsimp only); (exact HJ.out)
    try dsimp only at hHeld
    repeat' first
     | exact zA.nil
     | (refine zD [0, 1, 2, 3, 4, 5, 6, 7, 8, 9, 10, 11, 12, 13, 14, 15, 16, 17, 18, 19] 0 (by decide +kernel) (fun _ _ _ _ _ h => h) (by assumption) ?_; (iterate 20 ((first | (refine YA.skip rfl (by rfl) ?_) | (apply YA.take rfl (by rfl); case hy => rintro w ⟨s0, s2, s4, sc, sr⟩; go_simp; try with_reducible rfl)); try simp only [pD])); refine YA.nil ?_)
     | (refine zE (by decide +kernel) ?_)
    clear hHeld e1
    go_wp2_with fail
    go_roundw
    case rel => exact ⟨done, f', k' + 1, a, c, rfl, rfl, by go_num, by omega, by omega, hdl, HPD, zH HO.out.drew, zH HBr.out.drew⟩
    case measure => simp [intOf]; omega
end Go.Proofs.Ytjbkjfefjhbolaa
