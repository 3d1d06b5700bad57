/-
 The walks of the document's Parents, of chapter 8's Make.
-/
import Derived.Test.YtibhcibcfommeaaRef5
import Derived.Test.YtibhcibcfommeaaMkr2
set_option linter.unusedSimpArgs false
namespace Go.Proofs.Ytibhcibcfommeaa
open Go.RowKit Go.Shr
theorem refpar_v (a : Option Addr) (n cap : Nat) (l : List Fl) (w : World) (hs : Sl (fun b => b < w.heap.size) w 4 a n cap (fls l)) (hn : n ≤ 1000) (hkid : ∀ x ∈ l, x.kids ≤ 1000) :
  Calls Try.prog 38 #[.slice a n cap] w fun e w' => ∃ aP cP, e = .returned (.slice aP n cP) ∧ Is w.heap.size w' aP n cP (par l) ∧ Below w.heap.size w w' := by
 have HS := Lib.hid hs; have HK := Lib.hid hkid; clear hs hkid
 go_enter Try.func38, Try.ntmps38
 go_wp2_with fail
 refine (refwalk_v a n cap l w HS.out hn HK.out).mono ?_
 rintro e w1 ⟨aP, cP, aD, cD, rfl, hp, _, _, hb⟩
 have HP := Lib.hid hp; have HB := Lib.hid hb
 clear hp hb
 go_wp2_with fail
 go_ret
 exact ⟨aP, cP, rfl, HP.out, HB.out⟩
theorem val_all {c : MC} {l : List Fl} {P ns : List Int} (hP : P.length = l.length) (hPb : ∀ (j : Nat) (hj : j < P.length), -1 ≤ P[j] ∧ P[j] < (j : Int)) (hl : l.length ≤ 1000) (hns : ∀ z ∈ ns, (Lit.int .i64 z).wf = true) :
  ∀ (N : Nat) (sh : Sh), sh.size ≤ N → N ≤ 1000 → ValOk c l P ns sh
 | 0, .mk _ _ _ _, h, _ => by simp [Sh.size] at h
 | N + 1, .mk nm rp kd ks, h, hN => by
  by_cases hk : kd = 0
  ·subst hk
   simp only [Sh.size] at h
   have hkl := kids_sizes ks
   refine value_grp hP hPb hl hns nm rp ks (by omega) (fun s hs => val_all hP hPb hl hns N s ?_ (by omega))
   have : ∀ (q : List Sh), s ∈ q → s.size ≤ shSizes q := by
    intro q
    induction q with
    | nil => intro h; cases h
    | cons x q ih =>
     intro h
     rcases List.mem_cons.1 h with rfl | h
     ·simp [shSizes]
     ·have := ih h; simp only [shSizes]; omega
   have := this ks hs
   omega
  ·exact value_leaf hns _ hk
/-- A schema's fields, as what is in what. -/
structure Sch (l : List Fl) (sh : Sh) : Prop where
 flat : l = flat sh
 good : GoodS sh
 kind : sh.kind = 0
 size : sh.size ≤ 1000
theorem Sch.kids {l : List Fl} {sh : Sh} (h : Sch l sh) : ∀ x ∈ l, x.kids ≤ 1000 := by
 have key : (∀ s : Sh, s.size ≤ 1000 → ∀ x ∈ Go.Proofs.Ytibhcibcfommeaa.flat s, x.kids ≤ 1000) ∧ True := by
  refine ⟨?_, trivial⟩
  have H : ∀ N, (∀ s : Sh, s.size ≤ N → N ≤ 1000 → ∀ x ∈ Go.Proofs.Ytibhcibcfommeaa.flat s, x.kids ≤ 1000) := by
   intro N
   induction N with
   | zero => intro s hs; cases s; simp [Sh.size] at hs
   | succ N ih =>
    intro s hs hN x hx
    obtain ⟨nm, rp, kd, ks⟩ := s
    simp only [Sh.size] at hs
    simp only [Go.Proofs.Ytibhcibcfommeaa.flat, List.mem_cons] at hx
    have hkl := kids_sizes ks
    rcases hx with rfl | hx
    ·dsimp only; omega
    ·have : ∀ (q : List Sh), shSizes q ≤ N → x ∈ flatL q → x.kids ≤ 1000 := by
      intro q
      induction q with
      | nil => intro _ h; simp [flatL] at h
      | cons y q ih2 =>
       intro h1 h2
       simp only [shSizes] at h1
       simp only [flatL, List.mem_append] at h2
       rcases h2 with h2 | h2
       ·exact ih y (by omega) (by omega) x h2
       ·exact ih2 (by omega) h2
     exact this ks (by omega) hx
  exact fun s hs => H 1000 s hs (Nat.le_refl _)
 rw [h.flat]
 exact key.1 sh h.size
theorem Sch.len {l : List Fl} {sh : Sh} (h : Sch l sh) : l.length = sh.size := by rw [h.flat, flat_length]
theorem Sch.ix {l : List Fl} {sh : Sh} (h : Sch l sh) : Ix l (fun v => kidsOf (par l) v) 0 sh := by rw [h.flat]; exact ix_root sh h.good h.kind
theorem make_sch (ns : List Int) : Sch (makeL ns) (makeSh ns) := ⟨makeL_flat ns, (makeSh_good ns).1, (makeSh_good ns).2.1, by rw [← flat_length, ← makeL_flat]; have := (make_len ns).2; omega⟩
/-- What Make returns. -/
def MakeQ (t : Tr) (w : World) (e : Ending) (w' : World) : Prop :=
 ∃ a m cap, e = .returned (.agg #[.int .i64 t.n, .string t.s, .slice a m cap]) ∧ TrG (fun b => w.heap.size ≤ b) w' t [.int .i64 t.n, .string t.s, .slice a m cap] ∧ Below w.heap.size w w'
set_option maxHeartbeats 1000000 in
theorem make8 (sa : Option Addr) (scap : Nat) (l : List Fl) (sh : Sh) (na : Option Addr) (nn ncap : Nat) (ns : List Int) (w : World) (hS : Sch l sh) (hs : Sl (fun b => b < w.heap.size) w 4 sa l.length scap (fls l)) (hn : Sl (fun b => b < w.heap.size) w 1 na nn ncap (ints ns)) (hns : ∀ z ∈ ns, (Lit.int .i64 z).wf = true) :
  Calls Try.prog 22 #[.slice sa l.length scap, .slice na nn ncap] w (MakeQ (makeT sh ns) w) := by
 have hlen : ns.length = nn := by have := hn.len; rw [ints_length] at this; omega
 have hll : l.length ≤ 1000 := by rw [hS.len]; exact hS.size
 have HS := Lib.hid hs; have HN := Lib.hid hn; have HNS := Lib.hid hns; have HSC := Lib.hid hS
 clear hs hn hns hS
 subst hlen
 go_enter Try.func22, Try.ntmps22
 go_wp2_with fail
 refine cgen (fun wA hwA => ?_)
 have hA : Below w.heap.size w wA := by rw [hwA]; exact ba (b0 w) _
 have rA : Rw wA w.heap.size #[.int .i64 0, .string ⟨#[]⟩, .slice none 0 0] 29 := by rw [hwA]; exact Rw.new w _ _
 have hzA : wA.heap.size = w.heap.size + 1 := by rw [hwA]; simp
 clear hwA
 have HSA := Lib.hid (slb HS.out hA)
 refine (refpar_v sa l.length scap l wA HSA.out hll HSC.out.kids).mono ?_
 rintro e w1 ⟨aP, cP, rfl, hp, hb1⟩
 have HP := Lib.hid hp
 have HB1 := Lib.hid (bt hA hb1)
 have hz1 := hb1.size
 rw [hzA] at hz1
 have RA := Lib.hid (rA.below hb1)
 clear hp hb1 rA hzA
 go_wp2_with fail
 refine cgen (fun w2 hw2 => ?_)
 have hb2 : Below w1.heap.size w1 w2 := by rw [hw2]; exact ba (b0 w1) _
 have rM : Rw w2 w1.heap.size #[.slice sa l.length scap, .slice aP l.length cP, .slice na ns.length ncap, .int .i64 0] 83 := by rw [hw2]; exact Rw.new w1 _ _
 have hz2 : w2.heap.size = w1.heap.size + 1 := by rw [hw2]; simp
 clear hw2
 have hm : Mkr w2 ⟨w1.heap.size, sa, aP, na, scap, cP, ncap⟩ l (par l) ns 0 :=
  ⟨rM, Sl.go (Chg.ofBelow hb2) (fun k hk h => ⟨by omega, hk⟩) (slb HS.out HB1.out) (by decide), Sl.go (Chg.ofBelow hb2) (fun k hk h => ⟨by omega, hk⟩) HP.out.own.sl (by decide), Sl.go (Chg.ofBelow hb2) (fun k hk h => ⟨by omega, hk⟩) (slb HN.out HB1.out) (by decide), Nat.zero_le _⟩
 have hv := val_all (c := ⟨w1.heap.size, sa, aP, na, scap, cP, ncap⟩) (l := l) (P := par l) (ns := ns) (par_length l) (fun j hj => par_bd l j hj) hll HNS.out 1000 sh HSC.out.size (Nat.le_refl _) 0 0 w2 hm HSC.out.ix HSC.out.good
 have HB2 := Lib.hid (bt HB1.out hb2)
 have RA2 := Lib.hid (RA.out.below hb2)
 clear hb2 rM hm
 refine hv.mono ?_
 rintro e w3 ⟨a, m, cap, rfl, ht, _, hc⟩
 have r3 := RA2.out.chg hc (show ¬ (w.heap.size = w1.heap.size) by omega)
 have HT := Lib.hid ht; have HC := Lib.hid hc
 have z0 : w3.cell? ⟨w.heap.size, 0, none⟩ = some (.int .i64 0) := r3.cell 0
 have z1 : w3.cell? ⟨w.heap.size, 1, none⟩ = some (.string ⟨#[]⟩) := r3.cell 1
 have z2 : w3.cell? ⟨w.heap.size, 2, none⟩ = some (.slice none 0 0) := r3.cell 2
 have zl := r3.lt
 have zf := r3.frozen
 have HTT : Hid (makeT sh ns = (mkT ns sh 0).1) := Lib.hid rfl
 generalize (mkT ns sh 0).1 = t at *
 have hz3 := HB2.out.size
 clear ht hc r3
 go_wp2_with fail
 refine bodyPost_ret (v := .agg #[.int .i64 t.n, .string t.s, .slice a m cap]) (by simp [results, Try.results22, go_sem, z0, z1, z2]) rfl ?_
 rw [HTT.out]
 have h2 : Chg (fun b => b = w.heap.size) w3 (((w3.setCell ⟨w.heap.size, 0, none⟩ (.int .i64 t.n)).setCell ⟨w.heap.size, 1, none⟩ (.string t.s)).setCell ⟨w.heap.size, 2, none⟩ (.slice a m cap)) := (((Chg.refl (fun b => b = w.heap.size) w3).setCell (p := ⟨w.heap.size, 0, none⟩) (.inr rfl) _).setCell (p := ⟨w.heap.size, 1, none⟩) (.inr rfl) _).setCell (p := ⟨w.heap.size, 2, none⟩) (.inr rfl) _
 refine ⟨a, m, cap, rfl, TrG.go h2 (fun b _ hb => ⟨by omega, by omega⟩) HT.out, ?_⟩
 have h3 : Below w.heap.size w w3 := Chg.bt HB2.out HC.out (fun i hi h => by have h' : i = w1.heap.size := h; omega)
 exact ((h3.setCell (p := ⟨w.heap.size, 0, none⟩) (Nat.le_refl _) _).setCell (p := ⟨w.heap.size, 1, none⟩) (Nat.le_refl _) _).setCell (p := ⟨w.heap.size, 2, none⟩) (Nat.le_refl _) _
end Go.Proofs.Ytibhcibcfommeaa
