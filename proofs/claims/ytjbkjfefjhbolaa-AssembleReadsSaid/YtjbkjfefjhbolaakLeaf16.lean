import Derived.Test.YtjbkjfefjhbolaakBld16
set_option linter.all false
open And renaming intro → zLP
namespace Go.Proofs.Ytjbkjfefjhbolaa
open Go.RowKit Go.Shr
def zIy (q : BQ) (p : Spn) (bad : Bool) (w : World) (e : Ending) (w' : World) : Prop :=
 ∃ n s bad', e = .returned (.agg #[.int .i64 n, .string s, .slice none 0 0]) ∧ s.size ≤ maxLen ∧ BA q w' bad' ∧ Chg (fun b => b = q.bx) w w' ∧
  ∀ C r d v, yQ q C → zCZ C p = [⟨r, d, some v⟩] → bad = false → bad' = false ∧ n = v.n ∧ s = v.s
theorem zIy.bad {q : BQ} {p : Spn} {bad : Bool} {w wz : World} {b4 : Nat} (hx : CX q) (hk : p.k < q.m) (hB : BA q wz bad) (hb : Below w.heap.size w wz) (h4 : w.heap.size ≤ b4) (hbx : q.bx < w.heap.size) (hB0 : q.B0 ≤ w.heap.size) {u0 u1 u2 : Value}
  (hn : ¬ ∃ (h : p.f < (q.X p.k).d.length), p.f < p.t ∧ (q.X p.k).d[p.f] = (lvD q.l (q.lf p.k) : Int)) :
  zIy q p bad w (.returned (.agg #[.int .i64 0, .string ByteArray.empty, .slice none 0 0])) ((((wz.setCell ⟨q.bx, 7, none⟩ (.bool true)).setCell ⟨b4, 0, none⟩ u0).setCell ⟨b4, 1, none⟩ u1).setCell ⟨b4, 2, none⟩ u2) := by
 have h1 := (hB.set true).other (zD8 (Chg.refl (fun b => b = b4) (wz.setCell ⟨q.bx, 7, none⟩ (.bool true))) rfl (u0 := u0) (u1 := u1) (u2 := u2)) (fun k hk e => by
  have e' : k = b4 := e
  rcases hk with hk | hk <;> omega)
 refine ⟨0, ByteArray.empty, true, rfl, by decide, h1, ?_, fun C r d v hC hc _ => ?_⟩
 ·have g0 : Chg (fun b => b = q.bx) w wz := (chF hb).mono (fun _ _ h => h.elim)
  have g1 : Chg (fun b => b = q.bx) w (wz.setCell ⟨q.bx, 7, none⟩ (.bool true)) := g0.setCell (p := ⟨q.bx, 7, none⟩) (.inr rfl) _
  have g2 := g1.setCell (p := ⟨b4, 0, none⟩) (.inl h4) u0
  have g3 := g2.setCell (p := ⟨b4, 1, none⟩) (.inl h4) u1
  exact g3.setCell (p := ⟨b4, 2, none⟩) (.inl h4) u2
 ·obtain ⟨a1, a2, a3, a4, a5⟩ := hC.head hk hc
  exfalso
  refine hn ⟨a4, a3, ?_⟩
  rw [a5]
  have := ((hC p.k hk).2 ⟨r, d, some v⟩ (by rw [← a2]; exact List.getElem_mem a1)).2 rfl
  dsimp only at this ⊢
  rw [this]
set_option maxHeartbeats 1000000 in
set_option maxRecDepth 100000 in
theorem zI3 (q : BQ) (hx : CX q) (p : Spn) (w : World) (bad : Bool) (hp : zJC q p) (hB : BA q w bad) :
  Calls Try.prog 61 #[.pointer (some ⟨q.bx, 0, none⟩), .agg #[.int .i64 (p.k : Int), .int .i64 (p.f : Int), .int .i64 (p.t : Int)]] w (zIy q p bad w) := by
 obtain ⟨hpk, hft, htl⟩ := hp
 have hm3 : p.k < q.m := by rw [← hx.m]; exact hpk
 have hrd := hx.rd p.k hpk
 have hstr := hx.str p.k hpk
 rw [← BQ.X_eq hpk] at hrd hstr
 obtain ⟨cb0, co, a0, c0, a1, c1, a2, c2, hca, hcok, hc0, hc1, hc2, hcl⟩ := hB.st.colAt hpk hx.m
 rw [← BQ.X_eq hpk] at hc0 hc1 hc2 hcl
 obtain ⟨lb, lo, hla, _, hld⟩ := hB.st.leafAt hm3
 obtain ⟨hvok, hvs⟩ := hB.st.vals
 obtain ⟨va, vc, hv0, hvl⟩ := hvs p.k hm3
 rw [zAG] at hv0 hvl
 have hbxl := hB.row.lt
 have hbx4 : w.cell? ⟨q.bx, 4, none⟩ = some (.slice (some ⟨cb0, co, none⟩) q.m q.cc) := by have := hB.row.cell 4; rw [this]; simp [BQ.box, hca]
 have hbx3 : w.cell? ⟨q.bx, 3, none⟩ = some (.slice (some ⟨lb, lo, none⟩) q.m q.lc) := by have := hB.row.cell 3; rw [this]; simp [BQ.box, hla]
 have hbx5 : w.cell? ⟨q.bx, 5, none⟩ = some (.slice (some ⟨q.bv, 0, none⟩) q.m q.m) := by have := hB.row.cell 5; rw [this]; simp [BQ.box]
 have hbx7 : w.cell? ⟨q.bx, 7, none⟩ = some (.bool bad) := by have := hB.row.cell 7; rw [this]; simp [BQ.box]
 have HBB := zH hB
 have HBX := zH hx
 have hB0 := hB.B0
 have HRD := zH hrd
 have HSTR := zH hstr
 have HCL := zH hcl; have HVL := zH hvl
 have HC := zH (zLP hc0 (zLP hc1 (zLP hc2 (zLP hld (zLP hv0 (zLP hbx4 (zLP hbx3 (zLP hbx5 hbx7))))))))
 have hdn : (q.X p.k).d.length ≤ 1000000 := hrd.2.1
 have hrdl : (q.X p.k).r.length ≤ (q.X p.k).d.length := by omega
 have HBADQ := zH (fun (wz : World) (b4 : Nat) (u0 u1 u2 : Value) (hz : BA q wz bad) (hb : Below w.heap.size w wz) (h4 : w.heap.size ≤ b4) (hn : ¬ ∃ (h : p.f < (q.X p.k).d.length), p.f < p.t ∧ (q.X p.k).d[p.f] = (lvD q.l (q.lf p.k) : Int)) => zIy.bad (u0 := u0) (u1 := u1) (u2 := u2) hx hm3 hz hb h4 hbxl hB0 hn)
 clear hB hx hc0 hc1 hc2 hld hv0 hbx4 hbx3 hbx5 hbx7 hca hla hvs hrd hcl hvl hstr hrdl
 go_enter Try.func61, Try.ntmps61
 go_upto_region 1 with fail
 refine yE (fun w1 hw1 => ?_)
 have hb1 : Below w.heap.size w w1 := by rw [hw1]; exact ba (ba (b0 w) _) _
 have r3 : Rw w1 w.heap.size #[.int .i64 (p.k : Int), .int .i64 (p.f : Int), .int .i64 (p.t : Int)] 99 := by rw [hw1]; exact (Rw.new w _ _).alloc _
 have r4 : Rw w1 (w.heap.size + 1) #[.int .i64 0, .string ByteArray.empty, .slice none 0 0] 57 := by rw [hw1]; exact Rw.new' (by simp)
 clear hw1
 obtain ⟨q4, hq4⟩ : ∃ b, b = w.heap.size + 1 := ⟨_, rfl⟩
 rw [← hq4] at r4 ⊢
 have h4w : w.heap.size ≤ q4 := by omega
 have h43 : q4 ≠ w.heap.size := by omega
 clear hq4
 have R3 := zH r3; have R4 := zH r4; have HB1 := zH hb1
 have H1 : Hid (w1.cell? ⟨q.bx, 4, none⟩ = some (.slice (some ⟨cb0, co, none⟩) q.m q.cc) ∧ w1.cell? ⟨w.heap.size, 0, none⟩ = some (.int .i64 (p.k : Int)) ∧ w1.cell? ⟨cb0, co + p.k * 3, none⟩ = some (.slice a0 (q.X p.k).r.length c0) ∧ w1.cell? ⟨cb0, co + p.k * 3 + 1, none⟩ = some (.slice a1 (q.X p.k).d.length c1) ∧ w1.cell? ⟨cb0, co + p.k * 3 + 2, none⟩ = some (.slice a2 (q.X p.k).v.length c2)) :=
  zH ⟨cb hb1 HC.out.2.2.2.2.2.1, r3.cell 0, cb hb1 HC.out.1, cb hb1 HC.out.2.1, cb hb1 HC.out.2.2.1⟩
 clear r3 r4 hb1
 refine zF (fun w' => w'.cell? ⟨q.bx, 4, none⟩ = some (.slice (some ⟨cb0, co, none⟩) q.m q.cc) ∧ w'.cell? ⟨w.heap.size, 0, none⟩ = some (.int .i64 (p.k : Int)) ∧ w'.cell? ⟨cb0, co + p.k * 3, none⟩ = some (.slice a0 (q.X p.k).r.length c0) ∧ w'.cell? ⟨cb0, co + p.k * 3 + 1, none⟩ = some (.slice a1 (q.X p.k).d.length c1) ∧ w'.cell? ⟨cb0, co + p.k * 3 + 2, none⟩ = some (.slice a2 (q.X p.k).v.length c2)) [9] (by decide +kernel) ?g41rgS (fun hHeld => ?g41rgR)
 case g41rgS => (try dsimp only); (first | exact H1.out | exact ⟨cb HBW H1.out.1, cb HBW H1.out.2.1, cb HBW H1.out.2.2.1, cb HBW H1.out.2.2.2.1, cb HBW H1.out.2.2.2.2⟩)
 try dsimp only at hHeld
 obtain ⟨W, hW⟩ : ∃ W, W = w1.drew := ⟨_, rfl⟩; rw [← hW] at hHeld ⊢; (have HBW : Below w1.heap.size w1 W := by rw [hW]; exact (b0 w1).drew); clear hW
 repeat' first
  | exact zA.nil
  | refine zB (fuel := 1) [8] (by decide +kernel) (by simp) ?_
  | refine zB (fuel := 0) [9] (by decide +kernel) (by simp) ?_
  | (refine zD [0, 1, 2, 3, 4, 5, 6, 7] 2 (by decide +kernel) (fun _ _ _ _ _ h => h) (by assumption) ?_; (iterate 8 ((apply YA.take rfl (by rfl); case hy => rintro w ⟨s4, s0, sr, sd, sv⟩; go_simp; try with_reducible rfl); try simp only [pD])); refine YA.nil ?_)
  | (refine zA.con 8 rfl (fun K hK => ?_) ?_; (go_simp; refine xN (fun X hX => ?_); (have hbk := zJJ HBW hX); (have rn := zJI HBW hX); (have hnw := HBW.size); (replace HBW := bt HBW hbk); clear hX hbk); (refine hK.out _ _ ?_ (fun hHeld => ?_); focus ((try dsimp only); (first | exact H1.out | exact ⟨cb HBW H1.out.1, cb HBW H1.out.2.1, cb HBW H1.out.2.2.1, cb HBW H1.out.2.2.2.1, cb HBW H1.out.2.2.2.2⟩))); try dsimp only at hHeld; clear hK K; try simp only [pD])
  | (refine zA.lst 9 rfl (by decide +kernel) (fun K hK => ?_) ?_; ((have qf := rn.frozen); (have ql := rn.lt); (have z0 := rn.cell 0); (have z1 := rn.cell 1); (have z2 := rn.cell 2); (simp only [pG] at z0 z1 z2); go_simp; (have hBz := zLx HBW hnw (u0 := .slice a0 (q.X p.k).r.length c0) (u1 := .slice a1 (q.X p.k).d.length c1) (u2 := .slice a2 (q.X p.k).v.length c2)); (replace rn := rn.set3 (u0 := .slice a0 (q.X p.k).r.length c0) (u1 := .slice a1 (q.X p.k).d.length c1) (u2 := .slice a2 (q.X p.k).v.length c2)); refine xN (fun X hX => ?_); (replace HBW := Below.ren hX hBz); (replace rn := Rw.ren hX rn); clear hX hBz z0 z1 z2 qf ql); refine hK.out _ _ ?_; clear hK K; try simp only [pD])
  | (refine zE (by decide +kernel) ?_)
 clear hHeld
 obtain ⟨q5, hq5⟩ : ∃ b, b = W.heap.size := ⟨_, rfl⟩
 rw [← hq5] at rn hnw ⊢
 clear hq5
 have R5 := zH rn; have HBX1 := zH HBW
 have hsz1 := HB1.out.size
 have h5w : w.heap.size ≤ q5 := by omega
 obtain ⟨wv, hwv⟩ : ∃ wv, wv = X := ⟨_, rfl⟩
 rw [← hwv] at R5 HBX1 ⊢
 clear rn HBW hwv
 have HBV := zH (bt HB1.out HBX1.out)
 have p0 : wv.cell? ⟨w.heap.size, 0, none⟩ = some (.int .i64 (p.k : Int)) := (R3.out.below HBX1.out).cell 0
 have p1 : wv.cell? ⟨w.heap.size, 1, none⟩ = some (.int .i64 (p.f : Int)) := (R3.out.below HBX1.out).cell 1
 have p2 : wv.cell? ⟨w.heap.size, 2, none⟩ = some (.int .i64 (p.t : Int)) := (R3.out.below HBX1.out).cell 2
 have HBA := zH (HBB.out.below HBV.out)
 have hlw : q.bx < wv.heap.size := HBA.out.row.lt
 have bx7 : wv.cell? ⟨q.bx, 7, none⟩ = some (.bool bad) := cb HBV.out HC.out.2.2.2.2.2.2.2.2
 have hbf := HBA.out.row.frozen
 have r4v := R4.out.below HBX1.out
 have t0 : wv.cell? ⟨q4, 0, none⟩ = some (.int .i64 0) := r4v.cell 0
 have t1 : wv.cell? ⟨q4, 1, none⟩ = some (.string ByteArray.empty) := r4v.cell 1
 have t2 : wv.cell? ⟨q4, 2, none⟩ = some (.slice none 0 0) := r4v.cell 2
 have tf := r4v.frozen
 have tl := r4v.lt
 have hq4b : q4 ≠ q.bx := by omega
 have HT := zH (zLP t0 (zLP t1 t2))
 have HP := zH (zLP p0 (zLP p1 p2))
 clear r4v
 have HFIN : Hid (∀ u0 u1 u2, Rw ((((wv.setCell ⟨q.bx, 7, none⟩ (.bool true)).setCell ⟨q4, 0, none⟩ u0).setCell ⟨q4, 1, none⟩ u1).setCell ⟨q4, 2, none⟩ u2) q4 #[u0, u1, u2] 57) := zH (fun u0 u1 u2 => ((R4.out.below HBX1.out).other (p := ⟨q.bx, 7, none⟩) hq4b _).set3)
 by_cases hgood : ∃ (h : p.f < (q.X p.k).d.length), p.f < p.t ∧ (q.X p.k).d[p.f] = (lvD q.l (q.lf p.k) : Int)
 rotate_left
 ·have zr := HFIN.out (.int .i64 0) (.string ⟨#[]⟩) (.slice none 0 0)
  have z0 := zr.cell 0; have z1 := zr.cell 1; have z2 := zr.cell 2
  simp only [pG] at z0 z1 z2
  clear zr
  by_cases hft' : p.f < p.t
  ·have hfd : p.f < (q.X p.k).d.length := by have := HRD.out.1; omega
   have hne : (q.X p.k).d[p.f] ≠ (lvD q.l (q.lf p.k) : Int) := fun h => hgood ⟨hfd, hft', h⟩
   have HG := zH hgood
   have hge : ¬ (p.t : Int) ≤ (p.f : Int) := by omega
   obtain ⟨db, dof, hda, _, hdc⟩ := HCL.out.d.pos (by omega)
   subst hda
   have mD : wv.cell? ⟨db, dof + p.f, none⟩ = some (.int .i64 (q.X p.k).d[p.f]) := cb HBV.out (hdc p.f _ (zO _ _ hfd))
   have mL := cb HBV.out HC.out.2.2.2.1
   have m3 := cb HBV.out HC.out.2.2.2.2.2.2.1
   have hneb : ((q.X p.k).d[p.f] != (lvD q.l (q.lf p.k) : Int)) = true := by simpa using hne
   generalize (q.X p.k).d[p.f] = z at *
   have c1 : wv.cell? ⟨q5, 1, none⟩ = some (.slice (some ⟨db, dof, none⟩) (q.X p.k).d.length c1) := R5.out.cell 1
   have HJ := zH (zLP p0 (zLP p1 (zLP p2 (zLP c1 (zLP mD (zLP mL m3))))))
   clear hgood hdc hne
   go_upto_region 2 with fail
   clear p0 p1 p2 c1 mD mL m3
   refine zF (fun w' => w'.cell? ⟨w.heap.size, 0, none⟩ = some (.int .i64 (p.k : Int)) ∧ w'.cell? ⟨w.heap.size, 1, none⟩ = some (.int .i64 (p.f : Int)) ∧ w'.cell? ⟨w.heap.size, 2, none⟩ = some (.int .i64 (p.t : Int)) ∧ w'.cell? ⟨q5, 1, none⟩ = some (.slice (some ⟨db, dof, none⟩) (q.X p.k).d.length c1) ∧ w'.cell? ⟨db, dof + p.f, none⟩ = some (.int .i64 z) ∧ w'.cell? ⟨lb, lo + p.k * 4 + 2, none⟩ = some (.int .i64 (lvD q.l (q.lf p.k) : Int)) ∧ w'.cell? ⟨q.bx, 3, none⟩ = some (.slice (some ⟨lb, lo, none⟩) q.m q.lc)) [] (by decide +kernel) ?g42rgS (fun hHeld => ?g42rgR)
   case g42rgS => (try dsimp only); (exact HJ.out)
   try dsimp only at hHeld
   repeat' first
    | exact zA.nil
    | (refine zD [0, 1, 2, 3, 4, 5, 6, 7, 8, 9, 10, 11, 12, 13, 14, 15, 16, 17, 18, 19, 20, 21, 22] 0 (by decide +kernel) (fun _ _ _ _ _ h => h) (by assumption) ?_; (iterate 23 ((first | (refine YA.skip rfl (by rfl) ?_) | (apply YA.take rfl (by rfl); case hy => rintro w ⟨s0, s1, s2, s3, s4, s5, s6⟩; go_simp; try with_reducible rfl)); try simp only [pD])); refine YA.nil ?_)
    | (refine zE (by decide +kernel) ?_)
   clear hHeld hneb
   go_wp2_with fail
   refine bodyPost_ret (v := .agg #[.int .i64 0, .string ⟨#[]⟩, .slice none 0 0]) (by simp [results, Try.results61, go_sem, z0, z1, z2]) rfl ?_
   exact HBADQ.out wv.drew q4 _ _ _ (HBA.out.below (b0 wv).drew) HBV.out.drew h4w HG.out
  ·have HG := zH hgood
   have hge : (p.t : Int) ≤ (p.f : Int) := by omega
   clear hgood
   go_upto_region 2 with fail
   clear p0 p1 p2
   refine zF (fun w' => w'.cell? ⟨w.heap.size, 0, none⟩ = some (.int .i64 (p.k : Int)) ∧ w'.cell? ⟨w.heap.size, 1, none⟩ = some (.int .i64 (p.f : Int)) ∧ w'.cell? ⟨w.heap.size, 2, none⟩ = some (.int .i64 (p.t : Int))) [] (by decide +kernel) ?g43rgS (fun hHeld => ?g43rgR)
   case g43rgS => (try dsimp only); (exact HP.out)
   try dsimp only at hHeld
   repeat' first
    | exact zA.nil
    | (refine zD [0, 1, 2, 3, 4, 5, 6, 7, 8, 9, 10, 11, 12, 13, 14, 15, 16, 17, 18, 19, 20, 21, 22] 0 (by decide +kernel) (fun _ _ _ _ _ h => h) (by assumption) ?_; (iterate 23 ((first | (refine YA.skip rfl (by rfl) ?_) | (apply YA.take rfl (by rfl); case hy => rintro w ⟨s0, s1, s2⟩; go_simp; try with_reducible rfl)); try simp only [pD])); refine YA.nil ?_)
    | (refine zE (by decide +kernel) ?_)
   clear hHeld
   go_wp2_with fail
   refine bodyPost_ret (v := .agg #[.int .i64 0, .string ⟨#[]⟩, .slice none 0 0]) (by simp [results, Try.results61, go_sem, z0, z1, z2]) rfl ?_
   exact HBADQ.out wv.drew q4 _ _ _ (HBA.out.below (b0 wv).drew) HBV.out.drew h4w HG.out
 ·obtain ⟨hfd, hft', heq⟩ := hgood
  have hge : ¬ (p.t : Int) ≤ (p.f : Int) := by omega
  obtain ⟨db, dof, hda, _, hdc⟩ := HCL.out.d.pos (by omega)
  subst hda
  have mD : wv.cell? ⟨db, dof + p.f, none⟩ = some (.int .i64 (lvD q.l (q.lf p.k) : Int)) := by rw [← heq]; exact cb HBV.out (hdc p.f _ (zO _ _ hfd))
  have hvlt := zLo hfd heq
  rw [HRD.out.2.2] at hvlt
  have hvmax : (q.X p.k).v.length ≤ 1000000 := by rw [← HRD.out.2.2]; have := zKr (lvD q.l (q.lf p.k) : Int) (q.X p.k).d (q.X p.k).d.length; omega
  obtain ⟨vb, vo, hva, _, hvc⟩ := HCL.out.v.pos (by omega)
  subst hva
  obtain ⟨nb, no, hna, _, hnc⟩ := HVL.out.pos (by omega)
  subst hna
  have mN : wv.cell? ⟨nb, no + p.f, none⟩ = some (.int .i64 (vN (lvD q.l (q.lf p.k) : Int) (q.X p.k).d p.f : Int)) := cb HBV.out (hnc p.f _ (by rw [zO _ _ (by rw [zAG]; exact hfd), zEe]))
  have HVAL : Hid (∀ (C : Nat → List Cel) (r d : Nat) (v : Vc), yQ q C → zCZ C p = [⟨r, d, some v⟩] → (q.X p.k).v[vN (lvD q.l (q.lf p.k) : Int) (q.X p.k).d p.f] = v) := zH (fun C r d v hC hc => by
   have := hC.val hm3 hc
   rw [List.getElem?_eq_getElem hvlt] at this
   exact Option.some.inj this)
  have hsz := HSTR.out _ (List.getElem_mem hvlt)
  generalize vN (lvD q.l (q.lf p.k) : Int) (q.X p.k).d p.f = j at *
  obtain ⟨g0, g1⟩ := qL (q.X p.k).v j hvlt
  have mv0 := cb HBV.out (hvc _ _ g0)
  have mv1 := cb HBV.out (hvc _ _ g1)
  rw [← Nat.add_assoc] at mv1
  have HSZ := zH hsz
  generalize (q.X p.k).v[j] = v at *
  have mL := cb HBV.out HC.out.2.2.2.1
  have m3 := cb HBV.out HC.out.2.2.2.2.2.2.1
  have m5 := cb HBV.out HC.out.2.2.2.2.2.2.2.1
  have mv := cb HBV.out HC.out.2.2.2.2.1
  have c1 : wv.cell? ⟨q5, 1, none⟩ = some (.slice (some ⟨db, dof, none⟩) (q.X p.k).d.length c1) := R5.out.cell 1
  have c2 : wv.cell? ⟨q5, 2, none⟩ = some (.slice (some ⟨vb, vo, none⟩) (q.X p.k).v.length c2) := R5.out.cell 2
  have HJ := zH (zLP p0 (zLP p1 (zLP p2 (zLP c1 (zLP mD (zLP mL m3))))))
  have HJ2 := zH (zLP p0 (zLP p1 (zLP c2 (zLP m5 (zLP mv (zLP mN (zLP mv0 mv1)))))))
  clear hdc heq hvc hnc g0 g1 hsz HBADQ
  go_upto_region 2 with fail
  clear p0 p1 p2 c1 mD mL m3 c2 m5 mv mN mv0 mv1
  refine zF (fun w' => w'.cell? ⟨w.heap.size, 0, none⟩ = some (.int .i64 (p.k : Int)) ∧ w'.cell? ⟨w.heap.size, 1, none⟩ = some (.int .i64 (p.f : Int)) ∧ w'.cell? ⟨w.heap.size, 2, none⟩ = some (.int .i64 (p.t : Int)) ∧ w'.cell? ⟨q5, 1, none⟩ = some (.slice (some ⟨db, dof, none⟩) (q.X p.k).d.length c1) ∧ w'.cell? ⟨db, dof + p.f, none⟩ = some (.int .i64 (lvD q.l (q.lf p.k) : Int)) ∧ w'.cell? ⟨lb, lo + p.k * 4 + 2, none⟩ = some (.int .i64 (lvD q.l (q.lf p.k) : Int)) ∧ w'.cell? ⟨q.bx, 3, none⟩ = some (.slice (some ⟨lb, lo, none⟩) q.m q.lc)) [] (by decide +kernel) ?g44rgS (fun hHeld => ?g44rgR)
  case g44rgS => (try dsimp only); (exact HJ.out)
  try dsimp only at hHeld
  repeat' first
   | exact zA.nil
   | (refine zD [0, 1, 2, 3, 4, 5, 6, 7, 8, 9, 10, 11, 12, 13, 14, 15, 16, 17, 18, 19, 20, 21, 22] 0 (by decide +kernel) (fun _ _ _ _ _ h => h) (by assumption) ?_; (iterate 23 ((first | (refine YA.skip rfl (by rfl) ?_) | (apply YA.take rfl (by rfl); case hy => rintro w ⟨s0, s1, s2, s3, s4, s5, s6⟩; go_simp; try with_reducible rfl)); try simp only [pD])); refine YA.nil ?_)
   | (refine zE (by decide +kernel) ?_)
  clear hHeld
  go_wp2_with fail
  refine zF (fun w' => w'.cell? ⟨w.heap.size, 0, none⟩ = some (.int .i64 (p.k : Int)) ∧ w'.cell? ⟨w.heap.size, 1, none⟩ = some (.int .i64 (p.f : Int)) ∧ w'.cell? ⟨q5, 2, none⟩ = some (.slice (some ⟨vb, vo, none⟩) (q.X p.k).v.length c2) ∧ w'.cell? ⟨q.bx, 5, none⟩ = some (.slice (some ⟨q.bv, 0, none⟩) q.m q.m) ∧ w'.cell? ⟨q.bv, p.k, none⟩ = some (.slice (some ⟨nb, no, none⟩) (q.X p.k).d.length vc) ∧ w'.cell? ⟨nb, no + p.f, none⟩ = some (.int .i64 (j : Int)) ∧ w'.cell? ⟨vb, vo + j * 2, none⟩ = some (.int .i64 v.n) ∧ w'.cell? ⟨vb, vo + j * 2 + 1, none⟩ = some (.string v.s)) [17] (by decide +kernel) ?g45rgS (fun hHeld => ?g45rgR)
  case g45rgS => (try dsimp only); (first | exact HJ2.out | exact ⟨cb HBW HJ2.out.1, cb HBW HJ2.out.2.1, cb HBW HJ2.out.2.2.1, cb HBW HJ2.out.2.2.2.1, cb HBW HJ2.out.2.2.2.2.1, cb HBW HJ2.out.2.2.2.2.2.1, cb HBW HJ2.out.2.2.2.2.2.2.1, cb HBW HJ2.out.2.2.2.2.2.2.2⟩)
  try dsimp only at hHeld
  obtain ⟨W, hW⟩ : ∃ W, W = wv.drew.drew := ⟨_, rfl⟩; rw [← hW] at hHeld ⊢; (have HBW : Below wv.heap.size wv W := by rw [hW]; exact (b0 wv).drew.drew); clear hW
  repeat' first
   | exact zA.nil
   | refine zB (fuel := 1) [16] (by decide +kernel) (by simp) ?_
   | refine zB (fuel := 0) [17] (by decide +kernel) (by simp) ?_
   | (refine zD [0, 1, 2, 3, 4, 5, 6, 7, 8, 9, 10, 11, 12, 13, 14, 15] 2 (by decide +kernel) (fun _ _ _ _ _ h => h) (by assumption) ?_; (iterate 16 ((apply YA.take rfl (by rfl); case hy => rintro w ⟨s0, s1, s2, s3, s4, s5, s6, s7⟩; go_simp; try with_reducible rfl); try simp only [pD])); refine YA.nil ?_)
   | (refine zA.con 16 rfl (fun K hK => ?_) ?_; (go_simp; refine xN (fun X hX => ?_); (have hbk := zJJ HBW hX); (have rn := zJI HBW hX); (have hnv := HBW.size); (replace HBW := bt HBW hbk); clear hX hbk); (refine hK.out _ _ ?_ (fun hHeld => ?_); focus ((try dsimp only); (first | exact HJ2.out | exact ⟨cb HBW HJ2.out.1, cb HBW HJ2.out.2.1, cb HBW HJ2.out.2.2.1, cb HBW HJ2.out.2.2.2.1, cb HBW HJ2.out.2.2.2.2.1, cb HBW HJ2.out.2.2.2.2.2.1, cb HBW HJ2.out.2.2.2.2.2.2.1, cb HBW HJ2.out.2.2.2.2.2.2.2⟩))); try dsimp only at hHeld; clear hK K; try simp only [pD])
   | (refine zA.lst 17 rfl (by decide +kernel) (fun K hK => ?_) ?_; ((have qf := rn.frozen); (have ql := rn.lt); (have z0 := rn.cell 0); (have z1 := rn.cell 1); (simp only [pG] at z0 z1); go_simp; (have hBz := zKC HBW hnv (u0 := .int .i64 v.n) (u1 := .string v.s)); (replace rn := rn.set2 (u0 := .int .i64 v.n) (u1 := .string v.s)); refine xN (fun X hX => ?_); (replace HBW := Below.ren hX hBz); (replace rn := Rw.ren hX rn); clear hX hBz z0 z1 qf ql); refine hK.out _ _ ?_; clear hK K; try simp only [pD])
   | (refine zE (by decide +kernel) ?_)
  clear hHeld
  have HBN := zH HBW
  have y0 := rn.cell 0; have y1 := rn.cell 1
  simp only [pG] at y0 y1
  have r4n := (R4.out.below HBX1.out).below HBW
  have zr := r4n.set3 (u0 := .int .i64 v.n) (u1 := .string v.s) (u2 := .slice none 0 0)
  have t0 := r4n.cell 0; have t1 := r4n.cell 1; have t2 := r4n.cell 2
  simp only [pG] at t0 t1 t2
  have tf := r4n.frozen; have tl := r4n.lt
  have z0 := zr.cell 0; have z1 := zr.cell 1; have z2 := zr.cell 2
  simp only [pG] at z0 z1 z2
  clear r4n zr rn HBW
  go_wp2_with fail
  refine bodyPost_ret (v := .agg #[.int .i64 v.n, .string v.s, .slice none 0 0]) (by simp [results, Try.results61, go_sem, z0, z1, z2]) rfl ?_
  have hbn := bt HBV.out HBN.out
  refine ⟨v.n, v.s, bad, rfl, HSZ.out, ?_, ?_, fun C r d u hC hc hb => ?_⟩
  ·exact (HBB.out.below hbn).other (zD8 (Chg.refl (fun b => b = q4) _) rfl) (fun k hk e => by
    have e' : k = q4 := e
    rcases hk with hk | hk <;> omega)
  ·have g0 : Chg (fun b => b = q.bx) w _ := (chF hbn).mono (fun _ _ h => h.elim)
   have g2 := g0.setCell (p := ⟨q4, 0, none⟩) (.inl h4w) (.int .i64 v.n)
   have g3 := g2.setCell (p := ⟨q4, 1, none⟩) (.inl h4w) (.string v.s)
   exact g3.setCell (p := ⟨q4, 2, none⟩) (.inl h4w) (.slice none 0 0)
  ·have := HVAL.out C r d u hC hc
   exact ⟨hb, by rw [this], by rw [this]⟩
end Go.Proofs.Ytjbkjfefjhbolaa
