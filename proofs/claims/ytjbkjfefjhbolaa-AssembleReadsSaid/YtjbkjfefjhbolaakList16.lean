import Derived.Test.YtjbkjfefjhbolaakValue16
import Derived.Test.YtjbkjfefjhbolaakSplit16
set_option linter.all false
open List renaming getElem?_eq_getElem → zLP, replicate → zLR, getElem?_cons_zero → zLS, getElem?_cons_succ → zLT, take_succ_eq_append_getElem → zLU, getElem?_toArray → zLV, getD_eq_getElem?_getD → zLW, append_nil → zLX, replicate_succ → zLZ, replicate_zero → zL0, length_append → zL1
open And renaming intro → zLQ
open Nat renaming le_refl → zLY, zero_le → zL2
namespace Go.Proofs.Ytjbkjfefjhbolaa
open Go.RowKit Go.Shr
theorem zGc : (Try.prog.info? 96).map (fun i => (i.zero, i.size, i.bytes)) = some (some (.slice none 0 0), 1, 24) := by kernel_rfl
theorem zEH : (Try.prog.info? 57).map (fun i => (i.zero, i.size, i.bytes)) = some (some (.agg #[.int .i64 0, .string ByteArray.empty, .slice none 0 0]), 3, 48) := by kernel_rfl
theorem zLM {w w1 : World} (h : Below w.heap.size w w1) (bx : Nat) (b : Bool) : Chg (fun k => k = bx) w (w1.setCell ⟨bx, 7, none⟩ (.bool b)) := ((chF h).mono (S' := fun k => k = bx) (fun _ _ h => h.elim)).setCell (p := ⟨bx, 7, none⟩) (.inr rfl) (.bool b)
theorem LQ.nil {q : BQ} {i : Nat} {s : Sh} {sp : List Spn} {bad bad' : Bool} {w w' : World} (hB : BA q w' bad') (hC : Chg (fun b => b = q.bx) w w')
    (h : ∀ C x0 r d deep, yQ q C → qW s.rep x0.length → (∀ t ∈ x0, fsT s t) → lvD q.l i = d + dmI s.rep → lvR q.l i = deep + rmI s.rep → jN q C i sp (fun lf => jO lf i d deep r s x0) → bad = false → bad' = false ∧ x0 = []) :
    LQ q i s sp bad w (.returned (.slice none 0 0)) w' := ⟨[], none, 0, [], bad', rfl, Sl.nil _ _ _ _, (by simp only [zZ]), hB, hC, fun C x0 r d deep h1 h2 h3 h4 h5 h6 h7 => by
      obtain ⟨g1, g2⟩ := h C x0 r d deep h1 h2 h3 h4 h5 h6 h7
      exact ⟨g1, g2.symm⟩⟩
theorem LQ.one {q : BQ} {i : Nat} {s : Sh} {sp : List Spn} {bad : Bool} {w w2 : World} {e : Ending} {w5 : World} (hw2 : Chg (fun b => b = q.bx) w w2) (hV : VQ q i s sp bad w2 e w5) (hx0 : ∀ C x0 r d deep, yQ q C → qW s.rep x0.length → (∀ t ∈ x0, fsT s t) → lvD q.l i = d + dmI s.rep → lvR q.l i = deep + rmI s.rep → jN q C i sp (fun lf => jO lf i d deep r s x0) →
      ∃ t0, x0 = [t0]) : ∃ v0 v1 v2, e = .returned (.agg #[v0, v1, v2]) ∧ LQ q i s sp bad w (.returned (.slice (some ⟨w5.heap.size, 0, none⟩) 1 1)) (w5.alloc (.cells #[v0, v1, v2] 57)) := by
  obtain ⟨t, a, c, bad', rfl, hT, hB, hC, hcond⟩ := hV
  refine ⟨_, _, _, rfl, [t], some ⟨w5.heap.size, 0, none⟩, 1, [.int .i64 t.n, .string t.s, .slice a t.kids.length c], bad', rfl, ?_, ?_, hB.below (ba (b0 w5) _), ?_, fun C x0 r d deep h1 h2 h3 h4 h5 h6 h7 => ?_⟩
  · have hs := hw2.size; have hs2 := hC.size
    exact ⟨rfl, zLY _, by decide, .inr ⟨_, 0, rfl, by omega, fun j u hj => by rw [Nat.zero_add, (Rw.new w5 #[.int .i64 t.n, .string t.s, .slice a t.kids.length c] 57).cell]; simpa using hj⟩⟩
  · have hs := hw2.size
    simp only [zZ]
    exact ⟨_, _, _, [], rfl, hT.go (S := fun _ => False) ((Chg.refl _ w5).alloc _) (fun k _ h => ⟨fun h => h, by have h' : w2.heap.size ≤ k := h; omega⟩), rfl⟩
  · exact (hw2.trans hC (fun _ _ h => h)).alloc _
  · obtain ⟨t0, rfl⟩ := hx0 C x0 r d deep h1 h2 h3 h4 h5 h6
    obtain ⟨g1, g2⟩ := hcond C t0 r h1 (h3 t0 (by simp)) (fun j hj => by
      have := h6 j hj
      unfold jO at this
      simp only [zB6, List.flatMap_nil, zLX] at this
      rw [h4, h5]; exact this) h7
    exact ⟨g1, by rw [g2]⟩
theorem zFJ : ∀ (n : Nat), (zLR n [Value.int .i64 0, .int .i64 0, .int .i64 0]).flatten = qV (zLR n ⟨0, 0, 0⟩)
  | 0 => rfl
  | n + 1 => by
    rw [zLZ, zLZ, List.flatten_cons, zFJ n]
    rfl
def zKK (q : BQ) (i : Nat) (s : Sh) (sp : List Spn) (br : Bool) (A : List Tr) (n : Nat) : Prop :=
  ∀ C x0 r d deep, yQ q C → qW s.rep x0.length → (∀ t ∈ x0, fsT s t) → lvD q.l i = d + dmI s.rep → lvR q.l i = deep + rmI s.rep → jN q C i sp (fun lf => jO lf i d deep r s x0) → br = false ∧ A = x0.take n
structure zIB (q : BQ) (i : Nat) (sp : List Spn) (bad : Bool) (gp : Nat) (w4 : World) (k : Nat) (br : Bool) (hd : List Value) (wr : World) : Prop where
  ba : BA q wr br
  own : Own gp wr 96 1 (some ⟨gp, 0, none⟩) sp.length sp.length hd
  rows : ∀ (j : Nat) (hj : j < sp.length), j < k → ∃ a c, hd[j]? = some (.slice a (zM q (lvR q.l i : Int) sp[j]).length c) ∧ Sl (fun b => w4.heap.size ≤ b) wr 3 a (zM q (lvR q.l i : Int) sp[j]).length c (qV (zM q (lvR q.l i : Int) sp[j]))
  chg : Chg (fun b => b = q.bx ∨ b = gp) w4 wr
  eq : br = false ↔ bad = false ∧ ∀ (j : Nat) (hj : j < sp.length), j < k → ∀ (h0 : 0 < sp.length), (zM q (lvR q.l i : Int) sp[j]).length = (zM q (lvR q.l i : Int) sp[0]).length
structure zKJ (q : BQ) (i : Nat) (sp : List Spn) (gp : Nat) (w4 : World) (k : Nat) (br : Bool) (hd : List Value) (wr : World) : Prop where
  ba : BA q wr br
  own : Own gp wr 96 1 (some ⟨gp, 0, none⟩) sp.length sp.length hd
  rows : ∀ (j : Nat) (hj : j < sp.length), j < k → ∃ a c, hd[j]? = some (.slice a (zM q (lvR q.l i : Int) sp[j]).length c) ∧ Sl (fun b => w4.heap.size ≤ b) wr 3 a (zM q (lvR q.l i : Int) sp[j]).length c (qV (zM q (lvR q.l i : Int) sp[j]))
  chg : Chg (fun b => b = q.bx ∨ b = gp) w4 wr
theorem zIB.mid {q : BQ} {i : Nat} {sp : List Spn} {bad : Bool} {gp : Nat} {w4 : World} {k : Nat} {br : Bool} {hd : List Value} {wr w6 : World} {ax : Option Addr} {cx : Nat} (h : zIB q i sp bad gp w4 k br hd wr) (hk : k < sp.length) (h4 : gp < w4.heap.size) (hx4 : q.bx < gp) (hB0 : q.B0 ≤ gp) (hb : Below wr.heap.size wr w6)
    (ho : Own w4.heap.size w6 99 3 ax (zM q (lvR q.l i : Int) sp[k]).length cx (qV (zM q (lvR q.l i : Int) sp[k]))) :
    zKJ q i sp gp w4 (k + 1) br (hd.set k (.slice ax (zM q (lvR q.l i : Int) sp[k]).length cx)) (w6.setCell ⟨gp, k, none⟩ (.slice ax (zM q (lvR q.l i : Int) sp[k]).length cx)) := by
  have hs := h.chg.size
  have hcs := zCV w6 gp k (.slice ax (zM q (lvR q.l i : Int) sp[k]).length cx)
  have hdl : hd.length = sp.length := by have := h.own.len; omega
  refine ⟨(h.ba.below hb).other hcs (fun b hb e => by have e' : b = gp := e; rcases hb with hb | hb <;> omega), (h.own.below hb).stored rfl k _, fun j hj hjk => ?_, ?_⟩
  · by_cases e : j = k
    · subst e
      refine ⟨ax, cx, by rw [List.getElem?_set_self (by omega)], ?_⟩
      exact (ho.sl.mono (ok' := fun b => w4.heap.size ≤ b) (fun b _ h => h.1) (by decide)).chg hcs (fun b hb e => by have e' : b = gp := e; have hb' : w4.heap.size ≤ b := hb; omega)
    · obtain ⟨a, c, h1, h2⟩ := h.rows j hj (by omega)
      refine ⟨a, c, by rw [List.getElem?_set_ne (fun h => e h.symm)]; exact h1, ?_⟩
      exact (h2.below hb).chg hcs (fun b hb e => by have e' : b = gp := e; have hb' : w4.heap.size ≤ b := hb; omega)
  · exact (h.chg.trans (Chg.ofBelow hb) (fun b hb' h => by have h' : wr.heap.size ≤ b := h; omega)).setCell (p := ⟨gp, k, none⟩) (.inr (.inr rfl)) _
theorem zKJ.fin {q : BQ} {i : Nat} {sp : List Spn} {bad : Bool} {gp : Nat} {w4 : World} {k : Nat} {br br' : Bool} {hd : List Value} {wr : World} (h : zKJ q i sp gp w4 k br hd wr) (hx4 : q.bx < gp) (h4 : gp < w4.heap.size)
    (he : br' = false ↔ bad = false ∧ ∀ (j : Nat) (hj : j < sp.length), j < k → ∀ (h0 : 0 < sp.length), (zM q (lvR q.l i : Int) sp[j]).length = (zM q (lvR q.l i : Int) sp[0]).length) :
    zIB q i sp bad gp w4 k br' hd (wr.drew.setCell ⟨q.bx, 7, none⟩ (.bool br')) := by
  have hcs := zJH wr.drew q.bx br'
  refine ⟨(h.ba.below (b0 wr).drew).set br', h.own.drew.chg hcs (fun b ⟨_, _, hb⟩ e => by cases hb; have e' : gp = q.bx := e; omega), fun j hj hjk => ?_, ?_, he⟩
  · obtain ⟨a, c, h1, h2⟩ := h.rows j hj hjk
    exact ⟨a, c, h1, h2.drew.chg hcs (fun b hb e => by have e' : b = q.bx := e; have hb' : w4.heap.size ≤ b := hb; omega)⟩
  · exact h.chg.drew.setCell (p := ⟨q.bx, 7, none⟩) (.inr (.inl rfl)) _
set_option maxHeartbeats 2000000 in
set_option maxRecDepth 100000 in
theorem zKY (q : BQ) (hx : CX q) (s : Sh) (hV : VOk q s) : LOk q s := by
  intro i sp a c w bad hix hn hg hB hsl hsp
  obtain ⟨it, hit, hz0t, hz1t, hz2t⟩ := info_parts zGc
  obtain ⟨itr, hitr, hz0r, hz1r, hz2r⟩ := info_parts zEH
  obtain ⟨isp, hisp, hz0s, hz1s, hz2s⟩ := info_parts zCn
  have hsz := qJ s
  have hi : i < q.n := by show i < q.l.length; omega
  have hsm := hx.small
  have hlen := hsp.len
  have hsp0 : 0 < sp.length := by have := zDA hg hix; omega
  have hspl : sp.length ≤ 1000 := by have h2 := zIt q.l (i + s.size); omega
  have hrep : (flN q.l i).rep = s.rep := by
    obtain ⟨nm, rp, kd, kk⟩ := s
    have := hix
    simp only [Ix] at this
    unfold flN; rw [zLW, this.1]; rfl
  have hrb : s.rep = 0 ∨ s.rep = 1 ∨ s.rep = 2 := by
    obtain ⟨nm, rp, kd, kk⟩ := s
    simp only [zR] at hg
    simp only [Sh.rep]; omega
  obtain ⟨sb, so, hsa, _, f1, _⟩ := hB.st.row hi
  rw [hrep] at f1
  obtain ⟨l0, l1, l2, l3⟩ := hB.st.levAt hi
  have hlvr : lvR q.l i ≤ 1000 := by have h1 := zAE q.l (Go.Shr.chain (par q.l) i); have h2 := xJ (par q.l) i; unfold lvR; have h3 : q.n = q.l.length := rfl; omega
  have hlvd : lvD q.l i ≤ 1001 := by have h1 := zCp q.l (Go.Shr.chain (par q.l) i); have h2 := xJ (par q.l) i; unfold lvD; have h3 : q.n = q.l.length := rfl; omega
  have hlev : q.ok q.bl := hB.st.levOk
  have x0 : w.cell? ⟨q.bx, 0, none⟩ = some (.slice (some ⟨sb, so, none⟩) q.n q.sc) := by have := hB.row.cell 0; rw [this]; simp [BQ.box, hsa]
  have x2 : w.cell? ⟨q.bx, 2, none⟩ = some (.slice (some ⟨q.bl, 0, none⟩) q.n q.n) := by have := hB.row.cell 2; rw [this]; simp [BQ.box]
  obtain ⟨hpk, hpo⟩ := hsp.at' 0 hsp0
  have hpm : sp[0].k < q.L.length := hpo.1
  have hrd := hx.rd sp[0].k hpm
  obtain ⟨cb0, co, a0, c0, a1, c1, a2, c2, hca, hcok, hc0, hc1, hc2, hcl⟩ := hB.st.colAt hpm hx.m
  have x4 : w.cell? ⟨q.bx, 4, none⟩ = some (.slice (some ⟨cb0, co, none⟩) q.m q.cc) := by have := hB.row.cell 4; rw [this]; simp [BQ.box, hca]
  have hHEAD := zH (fun C x0 r d deep (h1 : yQ q C) (h2 : qW s.rep x0.length) (h3 : ∀ t ∈ x0, fsT s t) (h4 : lvD q.l i = d + dmI s.rep) (h6 : jN q C i sp (fun lf => jO lf i d deep r s x0)) => zJc h1 hix hn hg hsp hsp0 h2 h3 h4 h6)
  obtain ⟨pb, po, hpa, hpok, hpc⟩ := hsl.pos hsp0
  obtain ⟨g0, g1, g2⟩ := zAS sp 0 hsp0
  have p0 := hpc _ _ g0; have p1 := hpc _ _ g1; have p2 := hpc _ _ g2
  rw [Nat.zero_mul] at p0 p1 p2
  rw [Nat.add_zero] at p0
  rw [Nat.zero_add] at p1 p2
  have HPC := zH hpc
  have hpt0 : sp[0].f ≤ sp[0].t := hpo.2.1
  have hptl : sp[0].t ≤ (q.X sp[0].k).d.length := by have := hpo.2.2; rw [BQ.X_eq hpm] at this ⊢; omega
  have hXe : q.L[sp[0].k] = q.X sp[0].k := (BQ.X_eq hpm).symm
  rw [hXe] at hc0 hc1 hc2 hcl hrd
  have hkm : (sp[0].k : Int) < (q.m : Int) := by have := hx.m; omega
  have hdl : (q.X sp[0].k).d.length ≤ 1000000 := hrd.2.1
  have hmm : q.m ≤ 1000 := by have := zIt q.l q.l.length; rw [zBN] at this; have h2 : q.m = (zG q.l q.l.length).length := rfl; omega
  have HP0' := zH hpo
  generalize hP : sp[0] = p at *
  have HPE := zH hP
  have HCD := zH hcl.d
  have hbxl := hB.row.lt
  have hB0 := hB.B0
  have HB := zH hB; have HX := zH hx; have HIX := zH hix; have HG := zH hg; have HSL := zH hsl; have HSP := zH hsp; have HV := zH hV
  have HC := zH (zLQ x0 (zLQ x2 (zLQ x4 (zLQ hc1 (zLQ f1 (zLQ l0 (zLQ l1 (zLQ l2 l3))))))))
  have HXE := zH hlen
  clear hsl hsp hB hx hix hsa hg hpc hV hlen hpk hXe hrd hc0 hc1 hc2 hcl hca hP g0 g1 g2 hrep x0 x2 x4 f1 l0 l1 l2 l3 hpo
  subst hpa
  show Calls _ _ _ _ (LQ q i s sp bad w)
  go_enter Try.func62, Try.ntmps62
  go_upto_region 2 with fail
  refine yE (fun w1 hw1 => ?_)
  have r7 : Rw w1 w.heap.size #[.int .i64 (p.k : Int), .int .i64 (p.f : Int), .int .i64 (p.t : Int)] 99 := by rw [hw1]; exact Rw.new w _ _
  have hb1 : Below w.heap.size w w1 := by rw [hw1]; exact ba (b0 w) _
  clear hw1 p0 p1 p2
  have p0 : w1.cell? ⟨w.heap.size, 0, none⟩ = some (.int .i64 (p.k : Int)) := r7.cell 0
  have p1 : w1.cell? ⟨w.heap.size, 1, none⟩ = some (.int .i64 (p.f : Int)) := r7.cell 1
  have p2 : w1.cell? ⟨w.heap.size, 2, none⟩ = some (.int .i64 (p.t : Int)) := r7.cell 2
  have HB1 := zH hb1; have R7 := zH r7
  have HBA1 := zH (HB.out.below hb1)
  have hsz1 : w.heap.size < w1.heap.size := by have := r7.lt; omega
  clear hb1 r7
  by_cases hft : p.f < p.t
  rotate_left
  · have hge : (p.t : Int) ≤ (p.f : Int) := by omega
    have HFT := zH hft
    have y7 : w1.cell? ⟨q.bx, 7, none⟩ = some (.bool bad) := by have := HBA1.out.row.cell 7; rw [this]; simp [BQ.box]
    have yf := HBA1.out.row.frozen
    have yl := HBA1.out.row.lt
    clear hft
    go_wp2_with fail
    go_ret
    exact LQ.nil (bad' := true) (HBA1.out.set true) (zLM HB1.out q.bx true) (fun C x0 r d deep h1 h2 h3 h4 h5 h6 h7 => absurd (hHEAD.out C x0 r d deep h1 h2 h3 h4 h6).1 HFT.out)
  have hge : ¬ (p.t : Int) ≤ (p.f : Int) := by omega
  have hfd : p.f < (q.X p.k).d.length := by omega
  obtain ⟨db, dof, hda, _, hdc⟩ := HCD.out.pos (by omega)
  have mD := hdc p.f _ (zO _ _ hfd)
  have HH : Hid (∀ C x0 r d deep, yQ q C → qW s.rep x0.length → (∀ t ∈ x0, fsT s t) → lvD q.l i = d + dmI s.rep → jN q C i sp (fun lf => jO lf i d deep r s x0) → (x0 = [] ↔ s.rep ≠ 0 ∧ (q.X p.k).d[p.f] < (lvD q.l i : Int))) := zH (fun C x0 r d deep h1 h2 h3 h4 h6 => by
    obtain ⟨_, hh2, hh3⟩ := hHEAD.out C x0 r d deep h1 h2 h3 h4 h6
    exact hh3)
  have HMD := zH mD
  have HCC := zH hda
  clear hdc mD hHEAD
  generalize (q.X p.k).d[p.f] = z at *
  have q0 := cb HB1.out HC.out.2.1
  have l0 := cb HB1.out HC.out.2.2.2.2.2.1; have l1 := cb HB1.out HC.out.2.2.2.2.2.2.1; have l2 := cb HB1.out HC.out.2.2.2.2.2.2.2.1; have l3 := cb HB1.out HC.out.2.2.2.2.2.2.2.2
  have hin : (i : Int) < (q.n : Int) := by omega
  go_upto_region 6 with fail
  refine yE (fun w2 hw2 => ?_)
  have r8 : Rw w2 w1.heap.size #[.int .i64 (i : Int), .int .i64 (lvR q.l i : Int), .int .i64 (lvD q.l i : Int), .int .i64 (flN q.l i).kind] 52 := by rw [hw2]; exact Rw.new w1 _ _
  have hb2 : Below w1.heap.size w1 w2 := by rw [hw2]; exact ba (b0 w1) _
  clear hw2 q0 l0 l1 l2 l3 p0 p1 p2
  obtain ⟨b8, hb8⟩ : ∃ b, b = w1.heap.size := ⟨_, rfl⟩
  rw [← hb8] at r8 ⊢
  have h8w : w.heap.size < b8 := by omega
  have h82 := r8.lt
  have HB2 := zH (bt HB1.out hb2); have R8 := zH r8; have R72 := zH (R7.out.below hb2)
  have HBA2 := zH (HBA1.out.below hb2)
  clear hb2 r8 hb8
  have HS6 : Hid (w2.cell? ⟨q.bx, 0, none⟩ = some (.slice (some ⟨sb, so, none⟩) q.n q.sc) ∧ w2.cell? ⟨sb, so + i * 4 + 1, none⟩ = some (.int .i64 s.rep) ∧ w2.cell? ⟨q.bx, 4, none⟩ = some (.slice (some ⟨cb0, co, none⟩) q.m q.cc) ∧ w2.cell? ⟨w.heap.size, 0, none⟩ = some (.int .i64 (p.k : Int)) ∧ w2.cell? ⟨w.heap.size, 1, none⟩ = some (.int .i64 (p.f : Int)) ∧ w2.cell? ⟨cb0, co + p.k * 3 + 1, none⟩ = some (.slice (some ⟨db, dof, none⟩) (q.X p.k).d.length c1) ∧ w2.cell? ⟨db, dof + p.f, none⟩ = some (.int .i64 z) ∧ w2.cell? ⟨b8, 2, none⟩ = some (.int .i64 (lvD q.l i : Int))) :=
    zH ⟨cb HB2.out HC.out.1, cb HB2.out HC.out.2.2.2.2.1, cb HB2.out HC.out.2.2.1, R72.out.cell 0, R72.out.cell 1, by have := cb HB2.out HC.out.2.2.2.1; rw [HCC.out] at this; exact this, cb HB2.out HMD.out, R8.out.cell 2⟩
  -- one value alone
  have HONE : Hid (∀ (W : World), Below w.heap.size w W → BA q W bad → s.rep ≠ 2 → (¬ (s.rep ≠ 0 ∧ z < (lvD q.l i : Int))) → Calls Try.prog 45 #[.pointer (some ⟨q.bx, 0, none⟩), .int .i64 (i : Int), .slice (some ⟨pb, po, none⟩) sp.length c] W
      (fun e w5 => ∃ v0 v1 v2, e = .returned (.agg #[v0, v1, v2]) ∧ LQ q i s sp bad w (.returned (.slice (some ⟨w5.heap.size, 0, none⟩) 1 1)) (w5.alloc (.cells #[v0, v1, v2] 57)))) := zH (fun W hb hba h2 hnn => by
    have hn' : i + s.size ≤ q.l.length := hn
    refine (HV.out i sp _ c W bad HIX.out hn' HG.out hba (HSL.out.go (ok' := fun b => b < W.heap.size ∧ b ≠ q.bx) (chF hb) (fun k hk h => ⟨fun h => h, by have := hb.size; omega, h.2⟩) (by decide)) HSP.out).mono ?_
    intro e w5 hq
    refine LQ.one ((chF hb).mono (fun _ _ h => h.elim)) hq (fun C x0 r d deep h1 h2' h3 h4 h5 h6 => ?_)
    have hne : x0 ≠ [] := fun h => hnn ((HH.out C x0 r d deep h1 h2' h3 h4 h6).1 h)
    match x0, hne with
    | [t], _ => exact ⟨t, rfl⟩
    | t :: u :: ts, _ => exact absurd (zG5 h2' (by simp)) h2)
  have hz2 : (s.rep != 2) = !(s.rep == 2) := rfl
  clear hz2
  rcases hrb with hr0 | hr1 | hr2
  · have e0 : (s.rep != 0) = false := by rw [hr0]; rfl
    have e2 : (s.rep != 2) = true := by rw [hr0]; rfl
    have HR2 : Hid (s.rep ≠ 2) := zH (by rw [hr0]; decide)
    have HNN : Hid (¬ (s.rep ≠ 0 ∧ z < (lvD q.l i : Int))) := zH (fun h => h.1 hr0)
    clear hr0
    refine zF (fun w' => w'.cell? ⟨q.bx, 0, none⟩ = some (.slice (some ⟨sb, so, none⟩) q.n q.sc) ∧ w'.cell? ⟨sb, so + i * 4 + 1, none⟩ = some (.int .i64 s.rep) ∧ w'.cell? ⟨q.bx, 4, none⟩ = some (.slice (some ⟨cb0, co, none⟩) q.m q.cc) ∧ w'.cell? ⟨w.heap.size, 0, none⟩ = some (.int .i64 (p.k : Int)) ∧ w'.cell? ⟨w.heap.size, 1, none⟩ = some (.int .i64 (p.f : Int)) ∧ w'.cell? ⟨cb0, co + p.k * 3 + 1, none⟩ = some (.slice (some ⟨db, dof, none⟩) (q.X p.k).d.length c1) ∧ w'.cell? ⟨db, dof + p.f, none⟩ = some (.int .i64 z) ∧ w'.cell? ⟨b8, 2, none⟩ = some (.int .i64 (lvD q.l i : Int))) [] (by decide +kernel) ?g47rgS (fun hHeld => ?g47rgR)
    case g47rgS => (try dsimp only); (exact HS6.out)
    try dsimp only at hHeld
    repeat' first
      | exact zA.nil
      | (refine zD [0, 1, 2, 3, 4, 5, 6, 7, 8, 9, 10, 11, 12, 13, 14, 15, 16, 17, 18, 19, 20, 21, 22, 23, 24, 25, 26] 0 (by decide +kernel) (fun _ _ _ _ _ h => h) (by assumption) ?_; (iterate 27 ((first | (refine YA.skip rfl (by rfl) ?_) | (apply YA.take rfl (by rfl); case hy => rintro w ⟨s0, s1, s2, s3, s4, s5, s6, s7⟩; go_simp; try with_reducible rfl)); try simp only [pD])); refine YA.nil ?_)
      | (refine zE (by decide +kernel) ?_)
    clear hHeld
    have f0 : w2.drew.cell? ⟨q.bx, 0, none⟩ = some (.slice (some ⟨sb, so, none⟩) q.n q.sc) := HS6.out.1
    have f1 : w2.drew.cell? ⟨sb, so + i * 4 + 1, none⟩ = some (.int .i64 s.rep) := HS6.out.2.1
    go_wp2_with fail
    refine (HONE.out w2.drew HB2.out.drew (HBA2.out.below (b0 w2).drew) HR2.out HNN.out).mono ?_
    rintro e w5 ⟨v0, v1, v2, rfl, hL⟩
    have HL := zH hL
    clear hL f0 f1
    go_wp2_with fail
    go_ret
    exact HL.out
  · have e0 : (s.rep != 0) = true := by rw [hr1]; rfl
    have e2 : (s.rep != 2) = true := by rw [hr1]; rfl
    have HR2 : Hid (s.rep ≠ 2) := zH (by rw [hr1]; decide)
    have HR1 : Hid (s.rep ≠ 0) := zH (by rw [hr1]; decide)
    clear hr1
    by_cases hz : z < (lvD q.l i : Int)
    · have HNN : Hid (s.rep ≠ 0 ∧ z < (lvD q.l i : Int)) := zH ⟨HR1.out, hz⟩
      refine zF (fun w' => w'.cell? ⟨q.bx, 0, none⟩ = some (.slice (some ⟨sb, so, none⟩) q.n q.sc) ∧ w'.cell? ⟨sb, so + i * 4 + 1, none⟩ = some (.int .i64 s.rep) ∧ w'.cell? ⟨q.bx, 4, none⟩ = some (.slice (some ⟨cb0, co, none⟩) q.m q.cc) ∧ w'.cell? ⟨w.heap.size, 0, none⟩ = some (.int .i64 (p.k : Int)) ∧ w'.cell? ⟨w.heap.size, 1, none⟩ = some (.int .i64 (p.f : Int)) ∧ w'.cell? ⟨cb0, co + p.k * 3 + 1, none⟩ = some (.slice (some ⟨db, dof, none⟩) (q.X p.k).d.length c1) ∧ w'.cell? ⟨db, dof + p.f, none⟩ = some (.int .i64 z) ∧ w'.cell? ⟨b8, 2, none⟩ = some (.int .i64 (lvD q.l i : Int))) [] (by decide +kernel) ?g48rgS (fun hHeld => ?g48rgR)
      case g48rgS => (try dsimp only); (exact HS6.out)
      try dsimp only at hHeld
      repeat' first
        | exact zA.nil
        | (refine zD [0, 1, 2, 3, 4, 5, 6, 7, 8, 9, 10, 11, 12, 13, 14, 15, 16, 17, 18, 19, 20, 21, 22, 23, 24, 25, 26] 0 (by decide +kernel) (fun _ _ _ _ _ h => h) (by assumption) ?_; (iterate 27 ((first | (refine YA.skip rfl (by rfl) ?_) | (apply YA.take rfl (by rfl); case hy => rintro w ⟨s0, s1, s2, s3, s4, s5, s6, s7⟩; go_simp; try with_reducible rfl)); try simp only [pD])); refine YA.nil ?_)
        | (refine zE (by decide +kernel) ?_)
      clear hHeld
      go_wp2_with fail
      go_ret
      exact LQ.nil (bad' := bad) (HBA2.out.below (b0 w2).drew) ((chF HB2.out).mono (S' := fun b => b = q.bx) (fun _ _ h => h.elim)).drew (fun C x0 r d deep h1 h2 h3 h4 h5 h6 h7 => ⟨h7, (HH.out C x0 r d deep h1 h2 h3 h4 h6).2 HNN.out⟩)
    have HNN : Hid (¬ (s.rep ≠ 0 ∧ z < (lvD q.l i : Int))) := zH (fun h => hz h.2)
    refine zF (fun w' => w'.cell? ⟨q.bx, 0, none⟩ = some (.slice (some ⟨sb, so, none⟩) q.n q.sc) ∧ w'.cell? ⟨sb, so + i * 4 + 1, none⟩ = some (.int .i64 s.rep) ∧ w'.cell? ⟨q.bx, 4, none⟩ = some (.slice (some ⟨cb0, co, none⟩) q.m q.cc) ∧ w'.cell? ⟨w.heap.size, 0, none⟩ = some (.int .i64 (p.k : Int)) ∧ w'.cell? ⟨w.heap.size, 1, none⟩ = some (.int .i64 (p.f : Int)) ∧ w'.cell? ⟨cb0, co + p.k * 3 + 1, none⟩ = some (.slice (some ⟨db, dof, none⟩) (q.X p.k).d.length c1) ∧ w'.cell? ⟨db, dof + p.f, none⟩ = some (.int .i64 z) ∧ w'.cell? ⟨b8, 2, none⟩ = some (.int .i64 (lvD q.l i : Int))) [] (by decide +kernel) ?g49rgS (fun hHeld => ?g49rgR)
    case g49rgS => (try dsimp only); (exact HS6.out)
    try dsimp only at hHeld
    repeat' first
      | exact zA.nil
      | (refine zD [0, 1, 2, 3, 4, 5, 6, 7, 8, 9, 10, 11, 12, 13, 14, 15, 16, 17, 18, 19, 20, 21, 22, 23, 24, 25, 26] 0 (by decide +kernel) (fun _ _ _ _ _ h => h) (by assumption) ?_; (iterate 27 ((first | (refine YA.skip rfl (by rfl) ?_) | (apply YA.take rfl (by rfl); case hy => rintro w ⟨s0, s1, s2, s3, s4, s5, s6, s7⟩; go_simp; try with_reducible rfl)); try simp only [pD])); refine YA.nil ?_)
      | (refine zE (by decide +kernel) ?_)
    clear hHeld
    have f0 : w2.drew.cell? ⟨q.bx, 0, none⟩ = some (.slice (some ⟨sb, so, none⟩) q.n q.sc) := HS6.out.1
    have f1 : w2.drew.cell? ⟨sb, so + i * 4 + 1, none⟩ = some (.int .i64 s.rep) := HS6.out.2.1
    go_wp2_with fail
    refine (HONE.out w2.drew HB2.out.drew (HBA2.out.below (b0 w2).drew) HR2.out HNN.out).mono ?_
    rintro e w5 ⟨v0, v1, v2, rfl, hL⟩
    have HL := zH hL
    clear hL f0 f1
    go_wp2_with fail
    go_ret
    exact HL.out
  · have e0 : (s.rep != 0) = true := by rw [hr2]; rfl
    have e2 : (s.rep != 2) = false := by rw [hr2]; rfl
    have HR2 : Hid (s.rep = 2) := zH hr2
    have HR1 : Hid (s.rep ≠ 0) := zH (by rw [hr2]; decide)
    clear hr2 HONE
    by_cases hz : z < (lvD q.l i : Int)
    · have HNN : Hid (s.rep ≠ 0 ∧ z < (lvD q.l i : Int)) := zH ⟨HR1.out, hz⟩
      refine zF (fun w' => w'.cell? ⟨q.bx, 0, none⟩ = some (.slice (some ⟨sb, so, none⟩) q.n q.sc) ∧ w'.cell? ⟨sb, so + i * 4 + 1, none⟩ = some (.int .i64 s.rep) ∧ w'.cell? ⟨q.bx, 4, none⟩ = some (.slice (some ⟨cb0, co, none⟩) q.m q.cc) ∧ w'.cell? ⟨w.heap.size, 0, none⟩ = some (.int .i64 (p.k : Int)) ∧ w'.cell? ⟨w.heap.size, 1, none⟩ = some (.int .i64 (p.f : Int)) ∧ w'.cell? ⟨cb0, co + p.k * 3 + 1, none⟩ = some (.slice (some ⟨db, dof, none⟩) (q.X p.k).d.length c1) ∧ w'.cell? ⟨db, dof + p.f, none⟩ = some (.int .i64 z) ∧ w'.cell? ⟨b8, 2, none⟩ = some (.int .i64 (lvD q.l i : Int))) [] (by decide +kernel) ?g50rgS (fun hHeld => ?g50rgR)
      case g50rgS => (try dsimp only); (exact HS6.out)
      try dsimp only at hHeld
      repeat' first
        | exact zA.nil
        | (refine zD [0, 1, 2, 3, 4, 5, 6, 7, 8, 9, 10, 11, 12, 13, 14, 15, 16, 17, 18, 19, 20, 21, 22, 23, 24, 25, 26] 0 (by decide +kernel) (fun _ _ _ _ _ h => h) (by assumption) ?_; (iterate 27 ((first | (refine YA.skip rfl (by rfl) ?_) | (apply YA.take rfl (by rfl); case hy => rintro w ⟨s0, s1, s2, s3, s4, s5, s6, s7⟩; go_simp; try with_reducible rfl)); try simp only [pD])); refine YA.nil ?_)
        | (refine zE (by decide +kernel) ?_)
      clear hHeld
      go_wp2_with fail
      go_ret
      exact LQ.nil (bad' := bad) (HBA2.out.below (b0 w2).drew) ((chF HB2.out).mono (S' := fun b => b = q.bx) (fun _ _ h => h.elim)).drew (fun C x0 r d deep h1 h2 h3 h4 h5 h6 h7 => ⟨h7, (HH.out C x0 r d deep h1 h2 h3 h4 h6).2 HNN.out⟩)
    have HNN : Hid (¬ (s.rep ≠ 0 ∧ z < (lvD q.l i : Int))) := zH (fun h => hz h.2)
    refine zF (fun w' => w'.cell? ⟨q.bx, 0, none⟩ = some (.slice (some ⟨sb, so, none⟩) q.n q.sc) ∧ w'.cell? ⟨sb, so + i * 4 + 1, none⟩ = some (.int .i64 s.rep) ∧ w'.cell? ⟨q.bx, 4, none⟩ = some (.slice (some ⟨cb0, co, none⟩) q.m q.cc) ∧ w'.cell? ⟨w.heap.size, 0, none⟩ = some (.int .i64 (p.k : Int)) ∧ w'.cell? ⟨w.heap.size, 1, none⟩ = some (.int .i64 (p.f : Int)) ∧ w'.cell? ⟨cb0, co + p.k * 3 + 1, none⟩ = some (.slice (some ⟨db, dof, none⟩) (q.X p.k).d.length c1) ∧ w'.cell? ⟨db, dof + p.f, none⟩ = some (.int .i64 z) ∧ w'.cell? ⟨b8, 2, none⟩ = some (.int .i64 (lvD q.l i : Int))) [] (by decide +kernel) ?g51rgS (fun hHeld => ?g51rgR)
    case g51rgS => (try dsimp only); (exact HS6.out)
    try dsimp only at hHeld
    repeat' first
      | exact zA.nil
      | (refine zD [0, 1, 2, 3, 4, 5, 6, 7, 8, 9, 10, 11, 12, 13, 14, 15, 16, 17, 18, 19, 20, 21, 22, 23, 24, 25, 26] 0 (by decide +kernel) (fun _ _ _ _ _ h => h) (by assumption) ?_; (iterate 27 ((first | (refine YA.skip rfl (by rfl) ?_) | (apply YA.take rfl (by rfl); case hy => rintro w ⟨s0, s1, s2, s3, s4, s5, s6, s7⟩; go_simp; try with_reducible rfl)); try simp only [pD])); refine YA.nil ?_)
      | (refine zE (by decide +kernel) ?_)
    clear hHeld
    have HNE : Hid (∀ C x0 r d deep, yQ q C → qW s.rep x0.length → (∀ t ∈ x0, fsT s t) → lvD q.l i = d + dmI s.rep → lvR q.l i = deep + rmI s.rep → jN q C i sp (fun lf => jO lf i d deep r s x0) → x0 ≠ [] ∧ ∀ (j : Nat) (hj : j < sp.length), (zM q (lvR q.l i : Int) sp[j]).length = x0.length ∧ ∀ (n : Nat) (h : n < x0.length) (h' : n < (zM q (lvR q.l i : Int) sp[j]).length), zCZ C (zM q (lvR q.l i : Int) sp[j])[n] = yK (q.lf (kb q.l i + j)) i (lvD q.l i) (lvR q.l i) (if n = 0 then r else lvR q.l i) s x0[n]) := zH (fun C x0 r d deep h1 h2 h3 h4 h5 h6 => by
      have hne : x0 ≠ [] := fun h => HNN.out ((HH.out C x0 r d deep h1 h2 h3 h4 h6).1 h)
      exact ⟨hne, fun j hj => zIN h1 HIX.out hn HG.out HSP.out hne h3 h4 h5 h6 j hj⟩)
    go_upto_region 8 with fail
    refine yE (fun wd hwd => ?_)
    have HBD : Hid (Below w.heap.size w wd) := zH (by rw [hwd]; exact HB2.out.drew)
    have HBAD : Hid (BA q wd bad) := zH (by rw [hwd]; exact HBA2.out.below (b0 w2).drew)
    have R8D : Hid (Rw wd b8 #[.int .i64 (i : Int), .int .i64 (lvR q.l i : Int), .int .i64 (lvD q.l i : Int), .int .i64 (flN q.l i).kind] 52) := zH (by rw [hwd]; exact R8.out.drew)
    have f0 : wd.cell? ⟨q.bx, 0, none⟩ = some (.slice (some ⟨sb, so, none⟩) q.n q.sc) := by rw [hwd]; exact HS6.out.1
    have f1 : wd.cell? ⟨sb, so + i * 4 + 1, none⟩ = some (.int .i64 s.rep) := by rw [hwd]; exact HS6.out.2.1
    have h8d := R8D.out.lt
    clear hwd HS6 HB2 HBA2 R8 R72 HBA1 R7 HB1 HCC HMD HCD HC h82 hsz1
    go_upto_region 11 with (at_make; refine zAw rfl _ _ _ rfl wd.heap.size _ it (.slice none 0 0) 1 Try.underlying95 hit hz0t hz1t .i64 .i64 _ _ sp.length rfl rfl rfl rfl (by rw [hz2t]; omega) (by simp only [maxLen]; omega) (zLY _) ?_; intro w4 hown hchg; (have HO4 := zH hown); (have HB4 := zH (hchg.nothing (fun _ _ h => h))); clear hown hchg)
    obtain ⟨gp, hgp⟩ : ∃ b, b = wd.heap.size := ⟨_, rfl⟩
    rw [← hgp] at HO4 h8d ⊢
    have h4 : gp < w4.heap.size := by obtain ⟨g, he, _, h4, _⟩ := HO4.out.pos hsp0; cases he; exact h4
    have hx4 : q.bx < gp := by omega
    have hB4 : q.B0 ≤ gp := by omega
    have HW4 := zH (bt HBD.out HB4.out)
    have R84 := zH (R8D.out.below HB4.out)
    have HP0 : Hid (zIB q i sp bad gp w4 0 bad _ w4) := zH ⟨HBAD.out.below HB4.out, HO4.out, (fun j hj h => absurd h (Nat.not_lt_zero _)), Chg.refl _ _, (fun h => ⟨h, fun j hj h => absurd h (Nat.not_lt_zero _)⟩), fun h => h.1⟩
    clear f0 f1 hgp HO4 R8D
    go_wp2_with fail
    go_loopw [80] (fun kv wr => ∃ (k : Nat) (br : Bool) (hd : List Value), kv = .int .i64 (k : Int) ∧ k ≤ sp.length ∧ Hid (zIB q i sp bad gp w4 k br hd wr)) (fun kv _ => sp.length - (intOf kv).toNat)
    case atStart => exact ⟨0, bad, _, rfl, zL2 _, HP0⟩
    case round =>
      obtain ⟨k, br, hd, rfl, hk, HP⟩ := hrel
      have hszr := HP.out.chg.size
      by_cases hkl : k < sp.length
      · have hkl' : (k : Int) < (sp.length : Int) := by omega
        obtain ⟨g0, g1, g2⟩ := zAS sp k hkl
        have hnS : ¬ (pb = q.bx ∨ pb = gp) := fun h => by
          rcases h with h | h
          · exact hpok.2 h
          · have := hpok.1; omega
        have e0 := HP.out.chg.keep (cb HW4.out (HPC.out _ _ g0)) hnS
        have e1 := HP.out.chg.keep (cb HW4.out (HPC.out _ _ g1)) hnS
        have e2 := HP.out.chg.keep (cb HW4.out (HPC.out _ _ g2)) hnS
        rw [← Nat.add_assoc] at e1 e2
        have HPO := zH (HSP.out.at' k hkl).2
        have HMID := zH (fun (w6 : World) (ax : Option Addr) (cx : Nat) hb ho => zIB.mid (w6 := w6) (ax := ax) (cx := cx) HP.out hkl h4 hx4 hB4 hb ho)
        have HUE : Hid (∃ u, u = sp[k]) := zH ⟨_, rfl⟩
        obtain ⟨u, hu⟩ := HUE.out
        rw [← hu] at e0 e1 e2 HPO HMID
        have HU := zH hu
        clear hu HUE g0 g1 g2
        have hPL := zEq HX.out HPO.out (r := (lvR q.l i : Int))
        go_upto_region 14 with fail
        refine yE (fun w5 hw5 => ?_)
        have r11 : Rw w5 wr.heap.size #[.int .i64 (u.k : Int), .int .i64 (u.f : Int), .int .i64 (u.t : Int)] 99 := by rw [hw5]; exact Rw.new wr _ _
        have hb5 : Below wr.heap.size wr w5 := by rw [hw5]; exact ba (b0 wr) _
        clear hw5 e0 e1 e2
        have j0 : w5.cell? ⟨wr.heap.size, 0, none⟩ = some (.int .i64 (u.k : Int)) := r11.cell 0
        have j1 : w5.cell? ⟨wr.heap.size, 1, none⟩ = some (.int .i64 (u.f : Int)) := r11.cell 1
        have j2 : w5.cell? ⟨wr.heap.size, 2, none⟩ = some (.int .i64 (u.t : Int)) := r11.cell 2
        have fR : w5.cell? ⟨b8, 1, none⟩ = some (.int .i64 (lvR q.l i : Int)) := ((R84.out.chg HP.out.chg (fun h => by rcases h with h | h <;> omega)).below hb5).cell 1
        have HB5 := zH hb5
        clear r11 hb5
        go_wp2_with fail
        refine (zHh q HX.out u (lvR q.l i) w5 br HPO.out (HP.out.ba.below HB5.out) hlvr).mono ?_
        rintro e w6 ⟨ax, cx, rfl, hox, hb6⟩
        have hb56 := bt HB5.out hb6
        have hmid := HMID.out w6 ax cx hb56 (hox.mono (by have := HB5.out.size; omega))
        obtain ⟨gg, hga, _, hgl, hgc, hgf⟩ := (HP.out.own.below hb56).pos hsp0
        cases hga
        have hhl : k < hd.length := by have := HP.out.own.len; omega
        have v0 := hgc k hd[k] (zLP hhl)
        have HM := zH hmid
        clear hmid hox hb6 hb56 hgc j0 j1 j2 fR HMID
        generalize hd[k] = hdk at *
        go_upto_region 15 with fail
        refine yE (fun w7 hw7 => ?_)
        have HM7 : Hid (zKJ q i sp gp w4 (k + 1) br _ w7) := zH (by rw [hw7]; exact HM.out)
        clear hw7 HM hgl hgf v0
        obtain ⟨gg2, hga2, _, hgl, hgc, hgf⟩ := HM7.out.own.pos hsp0
        cases hga2
        obtain ⟨ak, ck, hk1, _⟩ := HM7.out.rows k hkl (by omega)
        obtain ⟨az, cz, hz1, _⟩ := HM7.out.rows 0 hsp0 (by omega)
        have vk := hgc k _ hk1
        have vz := hgc 0 _ hz1
        rw [← HU.out] at vk
        rw [HPE.out] at vz
        have v7 : w7.cell? ⟨q.bx, 7, none⟩ = some (.bool br) := by have := HM7.out.ba.row.cell 7; rw [this]; simp [BQ.box]
        have HBX7 := zH HM7.out.ba
        have HFIN : Hid (∀ br', (br' = false ↔ br = false ∧ (zM q (lvR q.l i : Int) u).length = (zM q (lvR q.l i : Int) p).length) → zIB q i sp bad gp w4 (k + 1) br' _ (w7.drew.setCell ⟨q.bx, 7, none⟩ (.bool br'))) := zH (fun br' he => HM7.out.fin hx4 h4 (by
          rw [he]
          constructor
          · rintro ⟨h1, h2⟩
            obtain ⟨h3, h5⟩ := HP.out.eq.1 h1
            refine ⟨h3, fun j hj hjk h0 => ?_⟩
            by_cases e : j = k
            · subst e; rw [← HU.out, HPE.out]; exact h2
            · exact h5 j hj (by omega) h0
          · rintro ⟨h1, h2⟩
            refine ⟨HP.out.eq.2 ⟨h1, fun j hj hjk h0 => h2 j hj (by omega) h0⟩, ?_⟩
            have := h2 k hkl (by omega) hsp0
            rwa [← HU.out, HPE.out] at this))
        clear HM7 hk1 hz1 hgc hgf hgl
        generalize (zM q (lvR q.l i : Int) u).length = LK at *
        generalize (zM q (lvR q.l i : Int) p).length = L0 at *
        have HS15 := zH (zLQ v7 (zLQ vk vz))
        clear v7 vk vz
        cases br with
        | true =>
          refine zF (fun w' => w'.cell? ⟨q.bx, 7, none⟩ = some (.bool true) ∧ w'.cell? ⟨gp, k, none⟩ = some (.slice ak LK ck) ∧ w'.cell? ⟨gp, 0, none⟩ = some (.slice az L0 cz)) [19] (by decide +kernel) ?g52rgS (fun hHeld => ?g52rgR)
          case g52rgS => (try dsimp only); (exact HS15.out)
          try dsimp only at hHeld
          repeat' first
            | exact zA.nil
            | refine zB (fuel := 0) [19] (by decide +kernel) (by simp) ?_
            | (refine zD [0, 1, 2, 3, 4, 5, 6, 7, 8, 9, 10, 11, 12, 13, 14, 15, 16, 17, 18] 1 (by decide +kernel) (fun _ _ _ _ _ h => h) (by assumption) ?_; (iterate 19 ((first | (refine YA.skip rfl (by rfl) ?_) | (apply YA.take rfl (by rfl); case hy => rintro w ⟨s0, s1, s2⟩; go_simp; try with_reducible rfl)); try simp only [pD])); refine YA.nil ?_)
            | (refine zA.lst 19 rfl (by decide +kernel) (fun K hK => ?_) ?_; ((have c7 := HBX7.out.row.drew.cell 7); (have cf := HBX7.out.row.drew.frozen); (have cl := HBX7.out.row.drew.lt); (simp only [BQ.box, zLV, zLS, zLT] at c7); go_simp); refine hK.out _ _ ?_; clear hK K; try simp only [pD])
            | (refine zE (by decide +kernel) ?_)
          clear hHeld c7 cf cl
          go_wp2_with fail
          go_roundw
          case rel => exact ⟨k + 1, true, _, by go_num, by omega, zH (HFIN.out true ⟨fun h => (by cases h), fun h => (by cases h.1)⟩)⟩
          case measure => simp [intOf]; omega
        | false =>
          by_cases hLL : LK = L0
          · have hb : ((LK : Int) != (L0 : Int)) = false := by rw [hLL]; simp
            have HF := zH (HFIN.out false ⟨fun _ => ⟨rfl, hLL⟩, fun _ => rfl⟩)
            clear hLL
            refine zF (fun w' => w'.cell? ⟨q.bx, 7, none⟩ = some (.bool false) ∧ w'.cell? ⟨gp, k, none⟩ = some (.slice ak LK ck) ∧ w'.cell? ⟨gp, 0, none⟩ = some (.slice az L0 cz)) [19] (by decide +kernel) ?g53rgS (fun hHeld => ?g53rgR)
            case g53rgS => (try dsimp only); (exact HS15.out)
            try dsimp only at hHeld
            repeat' first
              | exact zA.nil
              | refine zB (fuel := 0) [19] (by decide +kernel) (by simp) ?_
              | (refine zD [0, 1, 2, 3, 4, 5, 6, 7, 8, 9, 10, 11, 12, 13, 14, 15, 16, 17, 18] 1 (by decide +kernel) (fun _ _ _ _ _ h => h) (by assumption) ?_; (iterate 19 ((first | (refine YA.skip rfl (by rfl) ?_) | (apply YA.take rfl (by rfl); case hy => rintro w ⟨s0, s1, s2⟩; go_simp; try with_reducible rfl)); try simp only [pD])); refine YA.nil ?_)
              | (refine zA.lst 19 rfl (by decide +kernel) (fun K hK => ?_) ?_; ((have c7 := HBX7.out.row.drew.cell 7); (have cf := HBX7.out.row.drew.frozen); (have cl := HBX7.out.row.drew.lt); (simp only [BQ.box, zLV, zLS, zLT] at c7); go_simp); refine hK.out _ _ ?_; clear hK K; try simp only [pD])
              | (refine zE (by decide +kernel) ?_)
            clear hHeld c7 cf cl hb
            go_wp2_with fail
            go_roundw
            case rel => exact ⟨k + 1, false, _, by go_num, by omega, HF⟩
            case measure => simp [intOf]; omega
          · have hb : ((LK : Int) != (L0 : Int)) = true := by simp; omega
            have HF := zH (HFIN.out true ⟨fun h => (by cases h), fun h => absurd h.2 hLL⟩)
            clear hLL
            refine zF (fun w' => w'.cell? ⟨q.bx, 7, none⟩ = some (.bool false) ∧ w'.cell? ⟨gp, k, none⟩ = some (.slice ak LK ck) ∧ w'.cell? ⟨gp, 0, none⟩ = some (.slice az L0 cz)) [19] (by decide +kernel) ?g54rgS (fun hHeld => ?g54rgR)
            case g54rgS => (try dsimp only); (exact HS15.out)
            try dsimp only at hHeld
            repeat' first
              | exact zA.nil
              | refine zB (fuel := 0) [19] (by decide +kernel) (by simp) ?_
              | (refine zD [0, 1, 2, 3, 4, 5, 6, 7, 8, 9, 10, 11, 12, 13, 14, 15, 16, 17, 18] 1 (by decide +kernel) (fun _ _ _ _ _ h => h) (by assumption) ?_; (iterate 19 ((first | (refine YA.skip rfl (by rfl) ?_) | (apply YA.take rfl (by rfl); case hy => rintro w ⟨s0, s1, s2⟩; go_simp; try with_reducible rfl)); try simp only [pD])); refine YA.nil ?_)
              | (refine zA.lst 19 rfl (by decide +kernel) (fun K hK => ?_) ?_; ((have c7 := HBX7.out.row.drew.cell 7); (have cf := HBX7.out.row.drew.frozen); (have cl := HBX7.out.row.drew.lt); (simp only [BQ.box, zLV, zLS, zLT] at c7); go_simp); refine hK.out _ _ ?_; clear hK K; try simp only [pD])
              | (refine zE (by decide +kernel) ?_)
            clear hHeld c7 cf cl hb
            go_wp2_with fail
            go_roundw
            case rel => exact ⟨k + 1, true, _, by go_num, by omega, HF⟩
            case measure => simp [intOf]; omega
      · obtain rfl : k = sp.length := by omega
        have v7 : wr.cell? ⟨q.bx, 7, none⟩ = some (.bool br) := by have := HP.out.ba.row.cell 7; rw [this]; simp [BQ.box]
        have HCW : Hid (Chg (fun b => b = q.bx) w wr) := zH ⟨HP.out.chg.os.trans HW4.out.os, HP.out.chg.tape.trans HW4.out.tape, HP.out.chg.output.trans HW4.out.output, by have := HW4.out.size; omega, fun k hk hn => (HP.out.chg.block k (by have := HW4.out.size; omega) (fun h => h.elim hn (fun h => by omega))).trans (HW4.out.block k hk)⟩
        clear hkl
        cases br with
        | true =>
          go_wp2_with fail
          go_ret
          exact LQ.nil (bad' := true) HP.out.ba HCW.out (fun C x0 r d deep h1 h2 h3 h4 h5 h6 h7 => by
            obtain ⟨_, hp⟩ := HNE.out C x0 r d deep h1 h2 h3 h4 h5 h6
            have := HP.out.eq.2 ⟨h7, fun j hj _ h0 => by rw [(hp j hj).1, (hp 0 h0).1]⟩
            cases this)
        | false =>
          obtain ⟨hbad, hall⟩ := HP.out.eq.1 rfl
          have HN : Hid (∀ (j : Nat) (hj : j < sp.length), (zM q (lvR q.l i : Int) sp[j]).length = (zM q (lvR q.l i : Int) p).length) := zH (fun j hj => by rw [hall j hj hj hsp0, HPE.out])
          have hNp := zGI (q := q) (r := (lvR q.l i : Int)) hft
          have hNm := zEq HX.out HP0'.out (r := (lvR q.l i : Int))
          have HR : Hid (∀ (j : Nat) (hj : j < sp.length), ∃ a c, wr.cell? ⟨gp, j, none⟩ = some (.slice a (zM q (lvR q.l i : Int) p).length c) ∧ Sl (fun b => w4.heap.size ≤ b ∧ b < wr.heap.size) wr 3 a (zM q (lvR q.l i : Int) p).length c (qV (zM q (lvR q.l i : Int) sp[j]))) := zH (fun j hj => by
            obtain ⟨gg, hga, _, _, hgc, _⟩ := HP.out.own.pos hsp0
            cases hga
            obtain ⟨a, c, h1, h2⟩ := HP.out.rows j hj hj
            have h3 := hgc j _ h1
            rw [HN.out j hj] at h2 h3
            exact ⟨a, c, h3, h2.mono (fun b hb h => ⟨h, hb⟩) (by decide)⟩)
          have HBA8 := zH HP.out.ba
          have hg8 : gp < wr.heap.size := by omega
          clear hall HP
          generalize (zM q (lvR q.l i : Int) p).length = N at *
          obtain ⟨w8, rfl⟩ : ∃ wo : World, wo = wr := ⟨_, rfl⟩
          obtain ⟨az, cz, vz, _⟩ := HR.out 0 hsp0
          subst hbad
          go_upto_region 20 with (at_make; refine zAw rfl _ _ _ rfl w8.heap.size _ itr (.agg #[.int .i64 0, .string ByteArray.empty, .slice none 0 0]) 3 Try.underlying28 hitr hz0r hz1r .i64 .i64 _ _ N rfl rfl rfl rfl (by rw [hz2r]; omega) (by simp only [maxLen]; omega) (zLY _) ?_; intro w9 hown hchg; (have HO9 := zH hown); (have HB9 := zH (hchg.nothing (fun _ _ h => h))); clear hown hchg)
          obtain ⟨gt, hgt⟩ : ∃ b, b = w8.heap.size := ⟨_, rfl⟩
          rw [← hgt] at HO9 ⊢
          have hg9 : gt < w9.heap.size := by obtain ⟨g, he, _, h4, _⟩ := HO9.out.pos hNp; cases he; exact h4
          have hgpt : gp < gt := by omega
          have HCW9 := zH (HCW.out.trans (chF HB9.out) (fun _ _ h => h.elim))
          have HBA9 := zH (HBA8.out.below HB9.out)
          have HGT := zH hgt
          have hs98 := HB9.out.size
          clear vz hgt
          go_wp2_with fail
          go_loopw [124] (fun nv wr => ∃ (n : Nat) (br : Bool) (A : List Tr) (ys : List Value), nv = .int .i64 (n : Int) ∧ n ≤ N ∧ A.length = n ∧ Hid (BA q wr br) ∧ Hid (Own gt wr 57 3 (some ⟨gt, 0, none⟩) N N ys) ∧ Hid (zZ (fun b => w9.heap.size ≤ b) wr (A ++ zLR (N - n) (.mk 0 ByteArray.empty [])) ys) ∧ Hid (Chg (fun b => b = q.bx ∨ b = gt) w9 wr) ∧ Hid (zKK q i s sp br A n)) (fun nv _ => N - (intOf nv).toNat)
          case atStart =>
            refine ⟨0, false, [], _, rfl, zL2 _, rfl, HBA9, HO9, zH ?_, zH (Chg.refl _ _), zH (fun C x0 r d deep _ _ _ _ _ _ => ⟨rfl, by simp⟩)⟩
            rw [show (Value.agg #[.int .i64 0, .string ByteArray.empty, .slice none 0 0]).cells = #[.int .i64 0, .string ByteArray.empty, .slice none 0 0] from rfl, zJF]
            simpa using zZ.zeros N
          case round =>
            obtain ⟨n, br, A, ys, rfl, hn', hAl, HBA, HO, HRW, HC, HL⟩ := hrel
            have hsw9 := HC.out.size
            have HAL := zH hAl
            clear hAl
            obtain ⟨wn, rfl⟩ : ∃ wo : World, wo = wr := ⟨_, rfl⟩
            by_cases hnN : n < N
            rotate_left
            · have HJ : Hid (n = N) := zH (by omega)
              have hnn : ¬ (n : Int) < (N : Int) := by omega
              clear hnN
              go_wp2_with fail
              go_ret
              have hal := HAL.out
              have hj := HJ.out
              subst hj
              subst hal
              refine ⟨A, some ⟨gt, 0, none⟩, A.length, ys, br, rfl, HO.out.sl.mono (fun b _ h => by have := h.1; have := HCW9.out.size; have := HCW.out.size; have := HGT.out; omega) (by decide), ?_, HBA.out, ?_, fun C x0 r d deep h1 h2 h3 h4 h5 h6 _ => ?_⟩
              · have h := HRW.out
                rw [Nat.sub_self, zL0, zLX] at h
                exact h.go (Chg.refl (fun _ => False) wn) (fun b _ h => ⟨fun h => h, by have h' : w9.heap.size ≤ b := h; have := HCW9.out.size; omega⟩)
              · exact ⟨HC.out.os.trans HCW9.out.os, HC.out.tape.trans HCW9.out.tape, HC.out.output.trans HCW9.out.output, by have := HCW9.out.size; omega, fun k hk hn => (HC.out.block k (by have := HCW9.out.size; omega) (fun h => h.elim hn (fun h => by have := HGT.out; have := HCW.out.size; omega))).trans (HCW9.out.block k hk hn)⟩
              · obtain ⟨g1, g2⟩ := HL.out C x0 r d deep h1 h2 h3 h4 h5 h6
                obtain ⟨_, hp⟩ := HNE.out C x0 r d deep h1 h2 h3 h4 h5 h6
                have h0 := (hp 0 hsp0).1
                rw [HN.out 0 hsp0] at h0
                exact ⟨g1, by rw [g2, h0, List.take_length]⟩
            · have hnN' : (n : Int) < (N : Int) := by omega
              have HEO : Hid (zAB q i s (qF q (lvR q.l i : Int) sp n)) := zH (zGk HSP.out (fun j hj => by rw [HN.out j hj]; exact hnN))
              go_upto_region 24 with (at_make; refine zAw rfl _ _ _ rfl wn.heap.size _ isp (.agg #[.int .i64 0, .int .i64 0, .int .i64 0]) 3 Try.underlying96 hisp hz0s hz1s .i64 .i64 _ _ sp.length rfl rfl rfl rfl (by rw [hz2s]; omega) (by simp only [maxLen]; omega) (zLY _) ?_; intro w10 hown hchg; (have HO10 := zH hown); (have HB10 := zH (hchg.nothing (fun _ _ h => h))); clear hown hchg)
              obtain ⟨ge, hge'⟩ : ∃ b, b = wn.heap.size := ⟨_, rfl⟩
              rw [← hge'] at HO10 ⊢
              have hg10 : ge < w10.heap.size := by obtain ⟨g, he, _, h4, _⟩ := HO10.out.pos hsp0; cases he; exact h4
              have hgte : gt < ge := by omega
              have HGE := zH hge'
              have hs10 := HB10.out.size
              clear hge'
              go_wp2_with fail
              go_loopw [132] (fun kv wr => ∃ (k : Nat) (zs : List Spn), kv = .int .i64 (k : Int) ∧ k ≤ sp.length ∧ Hid (zs = (qF q (lvR q.l i : Int) sp n).take k ++ zLR (sp.length - k) ⟨0, 0, 0⟩) ∧ Hid (Own ge wr 99 3 (some ⟨ge, 0, none⟩) sp.length sp.length (qV zs)) ∧ Hid (Chg (fun b => b = ge) w10 wr)) (fun kv _ => sp.length - (intOf kv).toNat)
              case atStart =>
                refine ⟨0, zLR sp.length ⟨0, 0, 0⟩, rfl, zL2 _, zH (by simp), zH ?_, zH (Chg.refl _ _)⟩
                have h := HO10.out
                rw [show (Value.agg #[.int .i64 0, .int .i64 0, .int .i64 0]).cells = #[.int .i64 0, .int .i64 0, .int .i64 0] from rfl, zJF, zFJ] at h
                exact h
              case round =>
                obtain ⟨k, zs, rfl, hk, HZ, HOE, HCE⟩ := hrel
                have hzl : zs.length = sp.length := by have h := HOE.out.len; rw [zIG] at h; omega
                obtain ⟨gg, hga, _, hel, hec, hef⟩ := HOE.out.pos hsp0
                cases hga
                by_cases hkl : k < sp.length
                · have hkl' : (k : Int) < (sp.length : Int) := by omega
                  have hn9 : gp < w9.heap.size := by omega
                  obtain ⟨pa, pc, v0, hs0⟩ := HR.out k hkl
                  have hun : n < (zM q (lvR q.l i : Int) sp[k]).length := by rw [HN.out k hkl]; exact hnN
                  obtain ⟨g0, g1, g2⟩ := zAS _ n hun
                  obtain ⟨rb, ro, hra, hrok, hrc⟩ := hs0.pos (by omega)
                  have hrb := hrok
                  have hgt8 := HGT.out
                  have step : ∀ (b o : Nat) (v : Value), b < w8.heap.size → b ≠ q.bx → w8.cell? ⟨b, o, none⟩ = some v → wr.cell? ⟨b, o, none⟩ = some v := fun b o v hb hbx hc =>
                    HCE.out.keep (cb HB10.out (HC.out.keep (cb HB9.out hc) (fun h => by rcases h with h | h <;> omega))) (fun h => by omega)
                  have e0 := step _ _ _ hrb.2 (by omega) (hrc _ _ g0)
                  have e1 := step _ _ _ hrb.2 (by omega) (hrc _ _ g1)
                  have e2 := step _ _ _ hrb.2 (by omega) (hrc _ _ g2)
                  rw [← Nat.add_assoc] at e1 e2
                  have eh := step _ _ _ hg8 (by omega) v0
                  have HEK : Hid ((qF q (lvR q.l i : Int) sp n).take (k + 1) = (qF q (lvR q.l i : Int) sp n).take k ++ [(zM q (lvR q.l i : Int) sp[k])[n]]) := zH (by
                    rw [zLU (by rw [xI]; exact hkl)]
                    congr 2
                    simp only [qF, List.getElem_map]
                    rw [zLW, zLP hun]; rfl)
                  generalize (zM q (lvR q.l i : Int) sp[k])[n] = u at *
                  subst hra
                  obtain ⟨z0, z1, z2⟩ := zAS zs k (by omega)
                  obtain ⟨y0v, y0⟩ : ∃ v, wr.cell? ⟨ge, k * 3, none⟩ = some v := ⟨_, hec _ _ z0⟩
                  obtain ⟨y1v, y1⟩ : ∃ v, wr.cell? ⟨ge, k * 3 + 1, none⟩ = some v := ⟨_, hec _ _ z1⟩
                  obtain ⟨y2v, y2⟩ : ∃ v, wr.cell? ⟨ge, k * 3 + 2, none⟩ = some v := ⟨_, hec _ _ z2⟩
                  have HZL := zH hzl
                  clear hrc v0 hs0 g0 g1 g2 z0 z1 z2 step hec hrok hrb hgt8 hun hzl
                  go_wp2_with fail
                  have hown' := ((HOE.out.stored rfl (k * 3) (.int .i64 (u.k : Int))).stored rfl (k * 3 + 1) (.int .i64 (u.f : Int))).stored rfl (k * 3 + 2) (.int .i64 (u.t : Int))
                  rw [zFR zs k u (by rw [HZL.out]; exact hkl)] at hown'
                  have HON := zH hown'
                  have HCN := zH (((HCE.out.setCell (p := ⟨ge, k * 3, none⟩) (.inr rfl) (.int .i64 (u.k : Int))).setCell (p := ⟨ge, k * 3 + 1, none⟩) (.inr rfl) (.int .i64 (u.f : Int))).setCell (p := ⟨ge, k * 3 + 2, none⟩) (.inr rfl) (.int .i64 (u.t : Int)))
                  have HZN : Hid (zs.set k u = (qF q (lvR q.l i : Int) sp n).take (k + 1) ++ zLR (sp.length - (k + 1)) ⟨0, 0, 0⟩) := zH (by
                    rw [HZ.out, HEK.out, zDL (by rw [List.length_take, xI]; omega) hkl])
                  clear hown' e0 e1 e2 eh y0 y1 y2 hel hef
                  go_roundw
                  case rel => exact ⟨k + 1, zs.set k u, by go_num, by omega, HZN, HON, HCN⟩
                  case measure => simp [intOf]; omega
                · obtain rfl : k = sp.length := by omega
                  have hze : zs = qF q (lvR q.l i : Int) sp n := by
                    have h := HZ.out
                    rw [Nat.sub_self, zL0, zLX, List.take_of_length_le (by rw [xI]; omega)] at h
                    exact h
                  have hel' : (qF q (lvR q.l i : Int) sp n).length = sp.length := xI
                  obtain ⟨wi, rfl⟩ : ∃ wo : World, wo = wr := ⟨_, rfl⟩
                  have hCi : Chg (fun b => b = ge) wn wi := ((chF HB10.out).mono (S' := fun b => b = ge) (fun _ _ h => h.elim)).trans HCE.out (fun _ _ h => h)
                  have hBi : BA q wi br := HBA.out.other hCi (fun k hk e => by have e' : k = ge := e; rcases hk with hk | hk <;> omega)
                  have hsli : Sl (fun b => b < wi.heap.size ∧ b ≠ q.bx) wi 3 (some ⟨ge, 0, none⟩) (qF q (lvR q.l i : Int) sp n).length sp.length (qV (qF q (lvR q.l i : Int) sp n)) := by
                    rw [hel', ← hze]
                    exact HOE.out.sl.mono (fun b hb h => ⟨hb, by have := h.1; omega⟩) (by decide)
                  have hcall := HV.out i (qF q (lvR q.l i : Int) sp n) (some ⟨ge, 0, none⟩) sp.length wi br HIX.out hn HG.out hBi hsli HEO.out
                  rw [hel'] at hcall
                  have HCALL := zH hcall
                  have HCi := zH hCi
                  clear hkl hze hel' hCi hBi hsli hcall hel hec hef hzl HZ HOE HCE
                  go_wp2_with fail
                  refine HCALL.out.mono ?_
                  rintro e w5 ⟨t, ta, tc, br5, rfl, hT, hB5, hC5, hcond⟩
                  have hs5 := hC5.size
                  have hsi := HCi.out.size
                  have hown5 := (HO.out.chg HCi.out (fun b ⟨_, _, h⟩ e => by cases h; have e' : gt = ge := e; omega)).chg hC5 (fun b ⟨_, _, h⟩ e => by cases h; have e' : gt = q.bx := e; omega)
                  obtain ⟨gg, hga, _, hgl, hgc, hgf⟩ := hown5.pos (by omega)
                  cases hga
                  have hyl : ys.length = N * 3 := hown5.len
                  obtain ⟨y0v, y0⟩ : ∃ v, w5.cell? ⟨gt, n * 3, none⟩ = some v := ⟨_, hgc _ _ (zLP (by omega))⟩
                  obtain ⟨y1v, y1⟩ : ∃ v, w5.cell? ⟨gt, n * 3 + 1, none⟩ = some v := ⟨_, hgc _ _ (zLP (by omega))⟩
                  obtain ⟨y2v, y2⟩ : ∃ v, w5.cell? ⟨gt, n * 3 + 2, none⟩ = some v := ⟨_, hgc _ _ (zLP (by omega))⟩
                  have HON := zH (((hown5.stored rfl (n * 3) (.int .i64 t.n)).stored rfl (n * 3 + 1) (.string t.s)).stored rfl (n * 3 + 2) (.slice ta t.kids.length tc))
                  have hc3 := ((zCV w5 gt (n * 3) (.int .i64 t.n)).setCell (p := ⟨gt, n * 3 + 1, none⟩) (.inr rfl) (.string t.s)).setCell (p := ⟨gt, n * 3 + 2, none⟩) (.inr rfl) (.slice ta t.kids.length tc)
                  have hal := HAL.out
                  have hrow5 := (HRW.out.go (ok' := fun b => w9.heap.size ≤ b ∧ b < ge) HCi.out (fun b hb h => ⟨fun e => by have e' : b = ge := e; have := HGE.out; omega, h, by have := HGE.out; omega⟩)).go (ok' := fun b => w9.heap.size ≤ b) hC5 (fun b hb h => ⟨fun e => by have e' : b = q.bx := e; have := h.1; omega, h.1⟩)
                  have hrow6 := zZ.set (hT.go (S := fun _ => False) (ok' := fun b => w9.heap.size ≤ b) (Chg.refl _ w5) (fun b _ h => ⟨fun h => h, by have h' : wi.heap.size ≤ b := h; omega⟩)) n hrow5 (by rw [zL1, List.length_replicate]; omega)
                  rw [zDL hal hnN] at hrow6
                  have HRN := zH (hrow6.go (ok' := fun b => w9.heap.size ≤ b) hc3 (fun b _ h => ⟨fun e => by have e' : b = gt := e; have h' : w9.heap.size ≤ b := h; omega, h⟩))
                  have HBN := zH (hB5.other hc3 (fun k hk e => by have e' : k = gt := e; rcases hk with hk | hk <;> omega))
                  have HCN : Hid (Chg (fun b => b = q.bx ∨ b = gt) w9 _) := zH (((⟨hC5.os.trans (HCi.out.os.trans HC.out.os), hC5.tape.trans (HCi.out.tape.trans HC.out.tape), hC5.output.trans (HCi.out.output.trans HC.out.output), by omega, fun k hk hn => (hC5.block k (by omega) (fun h => hn (.inl h))).trans ((HCi.out.block k (by omega) (fun h => by have h' : k = ge := h; have := HGE.out; omega)).trans (HC.out.block k hk hn))⟩ : Chg (fun b => b = q.bx ∨ b = gt) w9 w5).trans hc3 (fun _ _ h => .inr h)))
                  have HLN : Hid (zKK q i s sp br5 (A ++ [t]) (n + 1)) := zH (fun C x0 r d deep h1 h2 h3 h4 h5 h6 => by
                    obtain ⟨g1, g2⟩ := HL.out C x0 r d deep h1 h2 h3 h4 h5 h6
                    obtain ⟨_, hp⟩ := HNE.out C x0 r d deep h1 h2 h3 h4 h5 h6
                    have h0 := (hp 0 hsp0).1
                    rw [HN.out 0 hsp0] at h0
                    have hnx : n < x0.length := by omega
                    obtain ⟨e1, e2⟩ := hcond C x0[n] (if n = 0 then r else lvR q.l i) h1 (h3 _ (List.getElem_mem hnx)) (zCQ (s := s) (fun j hj => ⟨by rw [HN.out j hj]; exact hnN, (hp j hj).2 n hnx _⟩)) g1
                    exact ⟨e1, by rw [zLU hnx, g2, e2]⟩)
                  clear hown5 hgl hgc hyl hc3 hal hrow5 hrow6 hT hB5 hC5 hcond
                  go_wp2_with fail
                  go_roundw
                  case rel => exact ⟨n + 1, br5, A ++ [t], _, by go_num, by omega, by rw [zL1, HAL.out]; rfl, HBN, HON, HRN, HCN, HLN⟩
                  case measure => simp [intOf]; omega
theorem zBq : ∀ {ks : List Sh} {s : Sh}, s ∈ ks → s.size ≤ zC ks
  | e :: r, s, h => by
    simp only [zC]
    rcases List.mem_cons.1 h with rfl | h
    · omega
    · have := zBq h; omega
theorem zEf (q : BQ) (hx : CX q) : ∀ (N : Nat) (s : Sh), s.size ≤ N → s.size ≤ 1000 → VOk q s
  | 0, .mk _ _ _ _, h, _ => by simp [Sh.size] at h
  | N + 1, .mk nm rp kd ks, h, h2 => by
    by_cases hk : kd = 0
    · subst hk
      simp only [Sh.size] at h h2
      refine zHM q hx nm rp ks ?_ (fun s hs => zKY q hx s (zEf q hx N s ?_ ?_))
      · have : ∀ (ks : List Sh), ks.length ≤ zC ks := by
          intro ks
          induction ks with
          | nil => simp [zC]
          | cons s r ih => have := qJ s; simp only [List.length_cons, zC]; omega
        have := this ks
        omega
      · have := zBq hs; omega
      · have := zBq hs; omega
    · exact zGv q hx _ hk
end Go.Proofs.Ytjbkjfefjhbolaa
