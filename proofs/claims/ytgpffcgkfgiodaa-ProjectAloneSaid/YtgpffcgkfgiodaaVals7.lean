/-
  The walk of values.
-/
import Derived.Test.YtgpffcgkfgiodaaVals7P
import Derived.Test.YtgpffcgkfgiodaaPart7
import Derived.Deep.CutRange
import Derived.Deep.CutBlock
set_option linter.unusedSimpArgs false
namespace Go.Proofs.Ytgpffcgkfgiodaa
open Go.RowKit Go.Shr
section
variable {ok : Nat → Prop} {w : World}
theorem kidG_get : ∀ {ks : List (List Tr)} {xs : List Value} (_ : KidG ok w ks xs) (k : Nat) (hk : k < ks.length),
    ∃ a cap ys, xs[k]? = some (.slice a (ks[k]).length cap) ∧ Sl ok w 3 a (ks[k]).length cap ys ∧ RowG ok w ks[k] ys
  | l :: r, xs, h, 0, _ => by
    simp only [KidG] at h
    obtain ⟨a, m, cap, ys, xr, rfl, rfl, h3, h4, _⟩ := h
    exact ⟨a, cap, ys, rfl, h3, h4⟩
  | l :: r, xs, h, k + 1, hk => by
    simp only [KidG] at h
    obtain ⟨a, m, cap, ys, xr, rfl, _, _, _, h5⟩ := h
    simpa using kidG_get h5 k (by simpa using hk)
theorem trG_parts {t : Tr} {cs : List Value} (h : TrG ok w t cs) : ∃ a cap xs, cs = [.int .i64 t.n, .string t.s, .slice a t.kids.length cap] ∧ t.s.size ≤ maxLen ∧ Sl ok w 1 a t.kids.length cap xs ∧ KidG ok w t.kids xs := by
  obtain ⟨n, s, ks⟩ := t
  simp only [TrG] at h
  obtain ⟨a, m, cap, xs, h1, h2, h3, h4⟩ := h
  have hm : m = ks.length := by have := h3.len; have := h4.len; omega
  subst hm
  exact ⟨a, cap, xs, h1, h2, h3, h4⟩
theorem rowG_get : ∀ {l : List Tr} {ys : List Value} (_ : RowG ok w l ys) (k : Nat) (hk : k < l.length),
    ∃ a cap, ys[k * 3]? = some (.int .i64 l[k].n) ∧ ys[k * 3 + 1]? = some (.string l[k].s) ∧ ys[k * 3 + 2]? = some (.slice a l[k].kids.length cap) ∧ TrG ok w l[k] [.int .i64 l[k].n, .string l[k].s, .slice a l[k].kids.length cap]
  | t :: r, ys, h, 0, _ => by
    simp only [RowG] at h
    obtain ⟨c0, c1, c2, yr, rfl, h2, _⟩ := h
    obtain ⟨a, cap, xs, hcs, _⟩ := trG_parts h2
    simp at hcs
    obtain ⟨rfl, rfl, rfl⟩ := hcs
    exact ⟨a, cap, rfl, rfl, rfl, h2⟩
  | t :: r, ys, h, k + 1, hk => by
    simp only [RowG] at h
    obtain ⟨c0, c1, c2, yr, rfl, _, h3⟩ := h
    rw [show (k + 1) * 3 = k * 3 + 1 + 1 + 1 by omega]
    simpa using rowG_get h3 k (by simpa using hk)
theorem rowG_append : ∀ {a b : List Tr} {ya yb : List Value}, RowG ok w a ya → RowG ok w b yb → RowG ok w (a ++ b) (ya ++ yb)
  | [], b, ya, yb, h, k => by simp only [RowG] at h; subst h; simpa using k
  | t :: a, b, ya, yb, h, k => by
    simp only [RowG] at h
    obtain ⟨c0, c1, c2, yr, rfl, h2, h3⟩ := h
    simp only [List.cons_append, RowG]
    exact ⟨c0, c1, c2, yr ++ yb, rfl, h2, rowG_append h3 k⟩
end
theorem sizeL_take : ∀ (x : List Tr) (m : Nat), sizeL (x.take m) ≤ sizeL x
  | [], m => by simp
  | t :: x, 0 => by simp [sizeL]
  | t :: x, m + 1 => by have := sizeL_take x m; simp only [List.take_succ_cons, sizeL]; omega
theorem sizeLL_take : ∀ (ks : List (List Tr)) (k : Nat) (h : k < ks.length), sizeLL (ks.take k) + sizeL ks[k] ≤ sizeLL ks
  | x :: ks, 0, _ => by simp [sizeLL]
  | x :: ks, k + 1, h => by
    have := sizeLL_take ks k (by simpa using h)
    simp only [List.take_succ_cons, sizeLL, List.getElem_cons_succ]
    omega
theorem gen_wv {P : Program} {c : Code} {Q : Exit → Act → World → Prop} {a : Act} {W : World} (h : ∀ W', W' = W → Code.wp P c Q a W') : Code.wp P c Q a W := h W rfl
def ValsQ (ok : Nat → Prop) (l : List Tr) (w : World) (e : Ending) (w' : World) : Prop :=
  ∃ a cap ys, e = .returned (.slice a l.length cap) ∧ Own w.heap.size w' 48 3 a l.length cap ys ∧ RowG ok w' l ys ∧ Below w.heap.size w w'
def ValsOk (l : List Fl) (lf : Nat) (s : Sh) : Prop := ∀ (ok : Nat → Prop) (i : Nat) (t : Tr) (sa pa a : Option Addr) (sc pc cap : Nat) (w : World), (∀ b, ok b → b < w.heap.size) → Ix l (fun v => kidsOf (par l) v) i s → GoodS s → okT s t → t.size ≤ 1000000000 →
  Sl (fun b => b < w.heap.size) w 4 sa l.length sc (fls l) → Sl (fun b => b < w.heap.size) w 1 pa l.length pc (ints (par l)) →
  TrG ok w t [.int .i64 t.n, .string t.s, .slice a t.kids.length cap] →
  Calls Try.prog 27 #[.slice sa l.length sc, .slice pa l.length pc, .int .i64 (i : Int), .int .i64 (lf : Int), .agg #[.int .i64 t.n, .string t.s, .slice a t.kids.length cap]] w (ValsQ ok (valsT lf i s t) w)
set_option maxHeartbeats 4000000 in
set_option maxRecDepth 100000 in
theorem vals_step (l : List Fl) (lf : Nat) (hll : l.length ≤ 1000) (nm : ByteArray) (rp kd : Int) (ks : List Sh) (hkl : ks.length ≤ 1000) (IH : ∀ s ∈ ks, ValsOk l lf s) : ValsOk l lf (.mk nm rp kd ks) := by
  intro ok i t sa pa a sc pc cap w hokb hix hg hok hsz hs hp ht
  obtain ⟨it, hit, hz0t, hz1t, hz2t⟩ := info_parts info_tr
  have HPL := Lib.hid (par_length l)
  have hok3 := okK_nil hg hok
  simp only [GoodS] at hg
  simp only [Ix] at hix
  obtain ⟨hil, hie⟩ := List.getElem?_eq_some_iff.1 hix.1
  obtain ⟨bs, os, rfl, hbs, hsc⟩ := hs.pos (by omega)
  have f2 := (fls_get l i hil).2.2.1
  rw [hie] at f2
  dsimp only at f2
  replace f2 := hsc _ _ f2
  rw [← Nat.add_assoc] at f2
  obtain ⟨ta, tc, txs, hcs, hts, htsl, htk⟩ := trG_parts ht
  simp at hcs
  obtain ⟨rfl, rfl⟩ := hcs
  have htg : TrG ok w t [.int .i64 t.n, .string t.s, .slice a t.kids.length cap] := ht
  have HTG := Lib.hid htg; have HTS := Lib.hid htsl; have HTK := Lib.hid htk
  have hR0 : Hid (rest (par l) i (i + 1) = offs (i + 1) ks) := Lib.hid (by
    rw [rest_start (fun j hj => (par_bd l j hj).2), ← kidsOf_kf]; exact hix.2.1)
  have HIX := Lib.hid hix.2.2
  have HGL := Lib.hid hg.2.2.2.2.2.2
  have HOK := Lib.hid hok3
  have hklt := okK_len hok3
  have HKL := Lib.hid hklt
  have hkl2 : t.kids.length ≤ 1000 := by rw [hklt]; exact hkl
  have HSZ := Lib.hid hsz; have HOKB := Lib.hid hokb
  have HS := Lib.hid hs; have HP := Lib.hid hp; have HIH := Lib.hid IH
  clear hs hp ht hix hie hsc hok3 hg IH hts hok htsl htk hklt hsz hokb htg
  by_cases hil' : i = lf
  · have hib : ((i : Int) == (lf : Int)) = true := beq_iff_eq.2 (by omega)
    have HE : Hid (valsT lf i (.mk nm rp kd ks) t = [t]) := Lib.hid (by simp only [valsT]; rw [if_pos hil'])
    clear hil'
    go_enter Try.func27, Try.ntmps27
    go_wp2_with fail
    obtain ⟨w2, hw2⟩ : ∃ w2, w2 = (w.alloc (.cells #[.int .i64 t.n, .string t.s, .slice a t.kids.length cap] 48)).alloc (.cells #[.int .i64 t.n, .string t.s, .slice a t.kids.length cap] 48) := ⟨_, rfl⟩
    have ho : Own w.heap.size w2 48 3 (some ⟨w.heap.size + 1, 0, none⟩) 1 1 [.int .i64 t.n, .string t.s, .slice a t.kids.length cap] := by
      rw [hw2]
      have := Own.new (B := w.heap.size) (e := 48) (size := 3) (w.alloc (.cells #[.int .i64 t.n, .string t.s, .slice a t.kids.length cap] 48)) #[.int .i64 t.n, .string t.s, .slice a t.kids.length cap] 1 (by simp) (by decide) rfl
      simpa using this
    have hb : Below w.heap.size w w2 := by rw [hw2]; exact ba (ba (b0 w) _) _
    rw [← hw2]
    clear hw2
    go_ret
    rw [HE.out]
    refine ⟨_, _, _, rfl, ho, ?_, hb⟩
    simp only [RowG]
    exact ⟨_, _, _, _, rfl, HTG.out.go (Chg.ofBelow hb) (fun b hb h => ⟨by omega, h⟩), rfl⟩
  have hib : ((i : Int) == (lf : Int)) = false := beq_eq_false_iff_ne.2 (by omega)
  by_cases hk : kd = 0
  rotate_left
  · have hkb : (kd != 0) = true := by simp [hk]
    have HE : Hid (valsT lf i (.mk nm rp kd ks) t = []) := Lib.hid (by simp only [valsT]; rw [if_neg hil', if_pos hk])
    clear hil' hk
    go_enter Try.func27, Try.ntmps27
    go_wp2_with fail
    go_ret
    rw [HE.out]
    exact ⟨none, 0, [], rfl, Own.nil _ _ _ _, by simp only [RowG], ba (b0 w) _⟩
  subst hk
  have HE : Hid (valsT lf i (.mk nm rp 0 ks) t = valsK lf (i + 1) ks t.kids) := Lib.hid (by simp only [valsT]; rw [if_neg hil', if_neg (by decide)])
  have hlen0 : (valsK lf (i + 1) ks t.kids).length ≤ t.size := by rw [← HE.out]; exact valsT_len _ _ _ _
  clear hil'
  go_enter Try.func27, Try.ntmps27
  go_upto_region 5 with fail
  refine gen_wv (fun wA hwA => ?_)
  have rA : Rw wA w.heap.size #[.int .i64 t.n, .string t.s, .slice a t.kids.length cap] 48 := by rw [hwA]; exact Rw.new w _ _
  have hbA : Below w.heap.size w wA := by rw [hwA]; exact ba (b0 w) _
  have RA := Lib.hid rA; have HBA := Lib.hid hbA
  have hlA := rA.lt
  clear hwA rA hbA f2
  go_wp2_with fail
  go_loopw [11, 12, 13] (fun lv nv jv wr => ∃ (j : Nat) (done todo : List Sh) (aL : Option Addr) (cL : Nat) (ys : List Value), lv = .slice aL (valsK lf (i + 1) done (t.kids.take done.length)).length cL ∧ nv = .int .i64 (done.length : Int) ∧ jv = .int .i64 (j : Int) ∧ j ≤ l.length ∧ Hid (ks = done ++ todo) ∧ Hid (rest (par l) i j = offs (i + 1 + shSizes done) todo) ∧ Hid (IxL l (fun v => kidsOf (par l) v) (i + 1 + shSizes done) todo) ∧
      Hid (Own (w.heap.size + 1) wr 48 3 aL (valsK lf (i + 1) done (t.kids.take done.length)).length cL ys) ∧ Hid (RowG ok wr (valsK lf (i + 1) done (t.kids.take done.length)) ys) ∧ Hid (Below w.heap.size w wr) ∧ Hid (Rw wr w.heap.size #[.int .i64 t.n, .string t.s, .slice a t.kids.length cap] 48)) (fun _ _ jv _ => l.length - (intOf jv).toNat)
  case atStart => exact ⟨i + 1, [], ks, none, 0, [], rfl, rfl, by go_num, hil, Lib.hid rfl, hR0, HIX, Lib.hid (by simpa [valsK] using Own.nil _ _ _ _), Lib.hid (by simp [valsK, RowG]), HBA, RA⟩
  case round =>
    clear RA HBA hR0 HIX
    obtain ⟨j, done, todo, aL, cL, ys, rfl, rfl, rfl, hj, HD, HRE, HIX, HO, HRW, HB, RA⟩ := hrel
    have hdl : done.length ≤ ks.length := by have := congrArg List.length HD.out; simp at this; omega
    have hszr := HB.out.size
    have hbox := RA.out.lt
    by_cases hlt : j < l.length
    · have hjP : j < (par l).length := by rw [HPL.out]; exact hlt
      obtain ⟨pb, po, rfl, hpb, hpc⟩ := HP.out.pos (by omega)
      have c0 := cb HB.out (hpc _ _ (ints_get (par l) j hjP))
      by_cases hp : (par l)[j] = (i : Int)
      · have hry := rest_yes hjP hp
        rw [HRE.out] at hry
        obtain ⟨s, q, hq, hjo, hre2⟩ := offs_cons hry
        have hjo' : j = i + 1 + shSizes done := by omega
        obtain ⟨hix, hixr⟩ := ixL_mem s q HIX.out hq
        rw [← hjo'] at hix hixr hre2
        have hdlt : done.length < ks.length := by have := congrArg List.length HD.out; rw [hq] at this; simp at this; omega
        have hdk : done.length < t.kids.length := by rw [HKL.out]; exact hdlt
        have hsg := GoodL_mem HGL.out (show s ∈ ks by rw [HD.out, hq]; simp)
        have hsk : ks[done.length] = s := by simp [HD.out, hq]
        have hok := okK_get HOK.out done.length hdlt hdk
        rw [hsk] at hok
        have HSN : Hid (valsK lf (i + 1) (done ++ [s]) (t.kids.take (done.length + 1)) = valsK lf (i + 1) done (t.kids.take done.length) ++ t.kids[done.length].flatMap (valsT lf j s)) := Lib.hid (by
          rw [List.take_succ_eq_append_getElem hdk, valsK_snoc _ _ _ _ _ (by rw [List.length_take]; omega), ← hjo'])
        have HV := Lib.hid (HIH.out s (show s ∈ ks by rw [HD.out, hq]; simp))
        have HNX : Hid (ks = (done ++ [s]) ++ q ∧ rest (par l) i (j + 1) = offs (i + 1 + shSizes (done ++ [s])) q ∧ IxL l (fun v => kidsOf (par l) v) (i + 1 + shSizes (done ++ [s])) q) := Lib.hid (by
          have e : i + 1 + shSizes (done ++ [s]) = j + s.size := by rw [shSizes_append, hjo']; simp [shSizes]; omega
          rw [e]
          exact ⟨by rw [HD.out, hq]; simp, hre2, hixr⟩)
        have HIXS := Lib.hid hix; have HSG := Lib.hid hsg; have HOKX := Lib.hid hok.2
        have hx50 := okRep_le hok.1
        rw [hp] at c0
        have HLS : Hid ((done ++ [s]).length = done.length + 1) := Lib.hid (by simp)
        obtain ⟨xa, xcap, xys, hxg, hxs, hxr⟩ := kidG_get HTK.out done.length hdk
        obtain ⟨tb, toff, rfl, htb, htc⟩ := HTS.out.pos (by omega)
        have htbl := HOKB.out _ htb
        have g1 := cb HB.out (htc _ _ hxg)
        have HG1 := Lib.hid (htc _ _ hxg)
        have HXS := Lib.hid hxs; have HXR := Lib.hid hxr
        have hszx := sizeLL_take t.kids done.length hdk
        have hszt : sizeLL t.kids < t.size := by cases t; simp only [Tr.kids, Tr.size]; omega
        have hvk := valsK_len lf done (i + 1) (t.kids.take done.length)
        have hxm : ∀ m, ((t.kids[done.length].take m).flatMap (valsT lf j s)).length ≤ sizeL t.kids[done.length] := fun m => Nat.le_trans (flatMap_len (fun u => valsT_len lf s j u) _) (sizeL_take _ _)
        have hxt : ∀ y ∈ t.kids[done.length], y.size ≤ 1000000000 := fun y hy => by have := sizeL_mem hy; have := HSZ.out; omega
        have HXM := Lib.hid hxm; have HXT := Lib.hid hxt
        have hL0 : (valsK lf (i + 1) done (t.kids.take done.length)).length + sizeL t.kids[done.length] ≤ 1000000000 := by have := HSZ.out; omega
        have t2 : wr.cell? ⟨w.heap.size, 2, none⟩ = some (.slice (some ⟨tb, toff, none⟩) t.kids.length cap) := RA.out.cell 2
        have hkn : (done.length : Int) < (t.kids.length : Int) := by omega
        generalize t.kids[done.length] = x at *
        generalize hvv : valsK lf (i + 1) done (t.kids.take done.length) = L at *
        clear hvv hpc hry hix hixr hre2 hsg hq hp hjo hjo' hsk hok HRE HIX HD htc hxg hxs hxr hszx hszt hvk hxm hxt
        go_wp2_with fail
        clear g1 t2 c0
        have HOx := HO; have HRWx := HRW; have HBx := HB; have RAx := RA
        obtain ⟨wx, rfl⟩ : ∃ wx : World, wx = wr := ⟨_, rfl⟩
        go_loopw [11, 14] (fun lv kv wQ => ∃ (g : Nat) (aM : Option Addr) (cM : Nat) (zs : List Value), lv = .slice aM (L ++ (x.take g).flatMap (valsT lf j s)).length cM ∧ kv = .int .i64 (g : Int) ∧ g ≤ x.length ∧ Hid (Own (w.heap.size + 1) wQ 48 3 aM (L ++ (x.take g).flatMap (valsT lf j s)).length cM zs) ∧ Hid (RowG ok wQ (L ++ (x.take g).flatMap (valsT lf j s)) zs) ∧ Hid (Below w.heap.size w wQ) ∧ Hid (Rw wQ w.heap.size #[.int .i64 t.n, .string t.s, .slice (some ⟨tb, toff, none⟩) t.kids.length cap] 48)) (fun _ kv _ => x.length - (intOf kv).toNat)
        case atStart => exact ⟨0, aL, cL, ys, by simp, rfl, Nat.zero_le _, Lib.hid (by simpa using HOx.out), Lib.hid (by simpa using HRWx.out), HBx, RAx⟩
        case round =>
          clear HOx HRWx HBx RAx HO HRW HB RA hszr hbox
          obtain ⟨g, aM, cM, zs, rfl, rfl, hg, HO, HRW, HB, RA⟩ := hrel
          have hszr := HB.out.size
          have hbox := RA.out.lt
          have t2 : wr.cell? ⟨w.heap.size, 2, none⟩ = some (.slice (some ⟨tb, toff, none⟩) t.kids.length cap) := RA.out.cell 2
          have k0 := cb HB.out HG1.out
          by_cases hgl : g < x.length
          · have HSNX : Hid (L ++ (x.take (g + 1)).flatMap (valsT lf j s) = (L ++ (x.take g).flatMap (valsT lf j s)) ++ valsT lf j s x[g]) := Lib.hid (by rw [List.take_succ_eq_append_getElem hgl, List.flatMap_append]; simp)
            have hlen1 := HXM.out (g + 1)
            have hlen2 : (L ++ (x.take (g + 1)).flatMap (valsT lf j s)).length ≤ 1000000000 := by rw [List.length_append]; omega
            rw [HSNX.out, List.length_append] at hlen2
            obtain ⟨xb, xo, rfl, hxb, hxc⟩ := HXS.out.pos (by omega)
            have hxbl := HOKB.out _ hxb
            obtain ⟨ya, ycap, y0, y1, y2, hyt⟩ := rowG_get HXR.out g hgl
            have c0 := cb HB.out (hxc _ _ y0)
            have c1 := cb HB.out (hxc _ _ y1)
            have c2 := cb HB.out (hxc _ _ y2)
            have HOKG := Lib.hid (HOKX.out _ (List.getElem_mem hgl))
            have HYZ := Lib.hid (HXT.out _ (List.getElem_mem hgl))
            have HTY := Lib.hid hyt
            rw [← Nat.add_assoc] at c1 c2
            generalize x[g] = y at *
            clear hxc y0 y1 y2 hyt hlen1
            go_wp2_with fail
            refine (HV.out ok j y _ _ _ _ _ _ wr (fun b hb => by have := HOKB.out b hb; omega) HIXS.out HSG.out HOKG.out HYZ.out (slb HS.out HB.out) (slb HP.out HB.out) (HTY.out.go (Chg.ofBelow HB.out) (fun b hb h => ⟨by have := HOKB.out b h; omega, h⟩))).mono ?_
            rintro e w2 ⟨a2, m2, ys2, rfl, ho2, hr2, hb2⟩
            generalize hvy : valsT lf j s y = V at *
            clear hvy
            generalize hMM : L ++ (x.take g).flatMap (valsT lf j s) = M at *
            clear hMM
            have hsz2 := hb2.size
            have hln2 := ho2.le
            have hO2 := HO.out.below hb2
            have HO2 := Lib.hid hO2
            have HSR2 := Lib.hid (ho2.sl.mono (ok' := fun b => b < w2.heap.size) (fun k hk _ => hk) (by decide))
            have HONE := Lib.hid (RowG.one' hr2)
            have HRM2 := Lib.hid (rowG_append (HRW.out.go (Chg.ofBelow hb2) (fun b hb h => ⟨by have := HOKB.out b h; omega, h⟩)) hr2)
            have HB2 := Lib.hid (bt HB.out hb2)
            have HRA2 := Lib.hid (RA.out.below hb2)
            clear hb2 ho2 hr2 hO2 t2 k0 c0 c1 c2
            have tok1 : True := trivial
            go_wp2_with (first
              | (at_builtin; have _t := tok1; clear tok1; clear _t; refine wpList_append (B := w.heap.size + 1) rfl _ _ _ _ rfl it (.agg #[.int .i64 0, .string ByteArray.empty, .slice none 0 0]) 48 Try.underlying60 hit hz0t hz1t hz2t rfl rfl (HO2.out) _ rfl _ _ (HSR2.out.src (P := Try.prog) (tx := 60) Try.underlying60 HONE.out) (by simp only [maxLen]; omega) (by omega) (by first | omega | (simp; omega) | simp) ?_; intro a5 cap5 w5 ho5 hc5 hn5); (have HO5 := Lib.hid ho5); (have HC5 := Lib.hid hc5); clear ho5 hc5 hn5
              | fail)
            go_roundw
            case rel =>
              have e := HSNX.out
              have el : (M ++ V).length = M.length + V.length := List.length_append
              refine ⟨g + 1, a5, cap5, zs ++ ys2, by rw [e, el], by go_num, by omega, Lib.hid ?_, Lib.hid ?_, Lib.hid ?_, Lib.hid ?_⟩
              · rw [e, el]; exact HO5.out
              · rw [e]; exact HRM2.out.go HC5.out (fun b hb h => ⟨fun h2 => by have := HOKB.out b h; have := h2.2.1; omega, h⟩)
              · exact Chg.bt HB2.out HC5.out (fun b hb h => by have := h.2.1; omega)
              · exact HRA2.out.chg HC5.out (fun h => by have := h.2.1; omega)
            case measure => simp [intOf]; omega
          · obtain rfl : g = x.length := by omega
            rw [List.take_length] at HO HRW ⊢
            have hfin := HSN.out
            rw [← HLS.out] at hfin
            rw [← hfin] at HO HRW ⊢
            clear hgl hfin
            go_wp2_with fail
            go_roundw
            case rel => exact ⟨j + 1, done ++ [s], q, aM, cM, zs, rfl, by rw [HLS.out]; go_num, by go_num, by omega, Lib.hid HNX.out.1, Lib.hid HNX.out.2.1, Lib.hid HNX.out.2.2, HO, HRW, HB, RA⟩
            case measure => simp [intOf]; omega
      · have hpb2 : (((par l)[j]) != (i : Int)) = true := by simp [hp]
        have hrn := rest_no hjP hp
        rw [HRE.out] at hrn
        have HRN := Lib.hid hrn.symm
        generalize (par l)[j] = pj at *
        clear hpc hrn hp
        go_wp2_with fail
        go_roundw
        case rel => exact ⟨j + 1, done, todo, aL, cL, ys, rfl, rfl, by go_num, by omega, HD, HRN, HIX, HO, HRW, HB, RA⟩
        case measure => simp [intOf]; omega
    · obtain rfl : j = l.length := by omega
      have hre := HRE.out
      rw [rest_end (by rw [HPL.out]; exact Nat.le_refl _)] at hre
      have htd := offs_nil hre.symm
      subst htd
      have hd : done = ks := by rw [HD.out]; simp
      subst hd
      have hkt : t.kids.take done.length = t.kids := List.take_of_length_le (by rw [HKL.out]; exact Nat.le_refl _)
      rw [hkt] at HO HRW ⊢
      clear hre HRE hkt
      go_wp2_with fail
      go_ret
      rw [HE.out]
      exact ⟨aL, cL, ys, rfl, HO.out.mono (Nat.le_succ _), HRW.out, HB.out⟩
theorem vals_all (l : List Fl) (lf : Nat) (hll : l.length ≤ 1000) : ∀ (N : Nat) (s : Sh), s.size ≤ N → N ≤ 1000 → ValsOk l lf s
  | 0, .mk _ _ _ _, h, _ => by simp [Sh.size] at h
  | N + 1, .mk nm rp kd ks, h, hN => by
    simp only [Sh.size] at h
    have hkl := kids_sizes ks
    refine vals_step l lf hll nm rp kd ks (by omega) (fun s hs => vals_all l lf hll N s ?_ (by omega))
    have : ∀ (q : List Sh), s ∈ q → s.size ≤ shSizes q := by
      intro q
      induction q with
      | nil => intro h; cases h
      | cons x q ih =>
        intro h
        rcases List.mem_cons.1 h with rfl | h
        · simp [shSizes]
        · have := ih h; simp only [shSizes]; omega
    have := this ks hs
    omega
end Go.Proofs.Ytgpffcgkfgiodaa
