/-
  The walk of the document's part.
-/
import Derived.Test.YtgpffcgkfgiodaaPrR
import Derived.Test.YtgpffcgkfgiodaaRRes7
import Derived.Deep.CutRange
import Derived.Deep.CutBlock
set_option linter.unusedSimpArgs false
namespace Go.Proofs.Ytgpffcgkfgiodaa
open Go.RowKit Go.Shr
theorem okRep_le {rep : Int} {m : Nat} (h : okRep rep m) : m ≤ 50 := by
  unfold okRep at h
  split at h
  · omega
  · split at h <;> omega
theorem okK_len : ∀ {ks : List Sh} {xs : List (List Tr)}, okK ks xs → xs.length = ks.length
  | [], xs, h => by rw [okK] at h; subst h; rfl
  | s :: r, [], h => by rw [okK] at h; exact h.elim
  | s :: r, x :: xs, h => by rw [okK] at h; simp [okK_len h.2.2]
theorem okK_get : ∀ {ks : List Sh} {xs : List (List Tr)} (_ : okK ks xs) (k : Nat) (hk : k < ks.length) (hx : k < xs.length), okRep ks[k].rep xs[k].length ∧ ∀ t ∈ xs[k], okT ks[k] t
  | s :: r, x :: xs, h, 0, _, _ => by rw [okK] at h; exact ⟨h.1, h.2.1⟩
  | s :: r, x :: xs, h, k + 1, h1, h2 => by rw [okK] at h; exact okK_get h.2.2 k (by simpa using h1) (by simpa using h2)
theorem keptK_snoc {f : Nat → Bool} : ∀ (done : List Sh) (A : List (List Tr)) (o : Nat) (s : Sh) (x : List Tr), A.length = done.length →
    keptK f o (done ++ [s]) (A ++ [x]) = keptK f o done A ++ (if f (o + shSizes done) = true then [x.map (keptT f (o + shSizes done) s)] else [])
  | [], A, o, s, x, h => by
    obtain rfl := List.eq_nil_of_length_eq_zero h
    by_cases hf : f o = true <;> simp [keptK, shSizes, hf]
  | d :: done, [], o, s, x, h => by simp at h
  | d :: done, a :: A, o, s, x, h => by
    have ih := keptK_snoc (f := f) done A (o + d.size) s x (by simpa using h)
    simp only [List.cons_append, keptK, shSizes]
    rw [ih, Nat.add_assoc]
    by_cases hf : f o = true
    · by_cases hf2 : f (o + (d.size + shSizes done)) = true <;> simp [hf, hf2]
    · by_cases hf2 : f (o + (d.size + shSizes done)) = true <;> simp [hf, hf2]
theorem keptK_len_le {f : Nat → Bool} : ∀ (ks : List Sh) (xs : List (List Tr)) (o : Nat), (keptK f o ks xs).length ≤ ks.length
  | [], xs, o => by simp [keptK]
  | s :: r, [], o => by simp [keptK]
  | s :: r, x :: xs, o => by
    have := keptK_len_le (f := f) r xs (o + s.size)
    simp only [keptK]
    split <;> simp <;> omega
theorem chF {w w' : World} (h : Below w.heap.size w w') : Chg (fun _ => False) w w' := ⟨h.os, h.tape, h.output, h.size, fun k hk _ => h.block k hk⟩
def PartOk (l : List Fl) (f : Nat → Bool) (s : Sh) : Prop := ∀ (i : Nat) (t : Tr) (sa pa ka a : Option Addr) (sc pc kc cap : Nat) (w : World), Ix l (fun v => kidsOf (par l) v) i s → GoodS s → okT s t →
  Sl (fun b => b < w.heap.size) w 4 sa l.length sc (fls l) → Sl (fun b => b < w.heap.size) w 1 pa l.length pc (ints (par l)) → Sl (fun b => b < w.heap.size) w 1 ka l.length kc (bls f l.length) →
  TrAt w t [.int .i64 t.n, .string t.s, .slice a t.kids.length cap] →
  Calls Try.prog 39 #[.slice sa l.length sc, .slice pa l.length pc, .slice ka l.length kc, .int .i64 (i : Int), .agg #[.int .i64 t.n, .string t.s, .slice a t.kids.length cap]] w (MakeQ (keptT f i s t) w)
set_option maxHeartbeats 1000000 in
theorem part_leaf (l : List Fl) (f : Nat → Bool) (hll : l.length ≤ 1000) (s : Sh) (hk : s.kind ≠ 0) : PartOk l f s := by
  intro i t sa pa ka a sc pc kc cap w hix hg hok hs hp hkk ht
  obtain ⟨nm, rp, kd, ks⟩ := s
  simp only [Sh.kind] at hk
  have hks : ks = [] := by simp only [GoodS] at hg; exact hg.2.2.2.2.1 hk
  subst hks
  simp only [Ix] at hix
  obtain ⟨hil, hie⟩ := List.getElem?_eq_some_iff.1 hix.1
  obtain ⟨bs, os, rfl, hbs, hsc⟩ := hs.pos (by omega)
  have f2 := (fls_get l i hil).2.2.1
  rw [hie] at f2
  dsimp only at f2
  replace f2 := hsc _ _ f2
  rw [← Nat.add_assoc] at f2
  have hts : t.s.size ≤ maxLen := by obtain ⟨_, _, _, _, _, _, h, _⟩ := ht.parts; exact h
  have HTS := Lib.hid hts
  have hkb : (kd != 0) = true := by simp [hk]
  have HE : Hid (keptT f i (.mk nm rp kd []) t = .mk t.n t.s []) := Lib.hid (by simp [keptT, keptK])
  have HI := Lib.hid hil
  clear hs hp hkk ht hix hie hsc hok hg hk hts
  go_enter Try.func39, Try.ntmps39
  go_wp2_with fail
  rw [HE.out]
  refine bodyPost_ret (v := .agg #[.int .i64 t.n, .string t.s, .slice none 0 0]) (by simp [results, Try.results39, go_sem]) rfl ?_
  exact ⟨none, 0, 0, rfl, TrG.leaf HTS.out, ba (ba (b0 w) _) _⟩
set_option maxHeartbeats 2000000 in
set_option maxRecDepth 100000 in
theorem part_grp (l : List Fl) (f : Nat → Bool) (hll : l.length ≤ 1000) (nm : ByteArray) (rp : Int) (ks : List Sh) (hkl : ks.length ≤ 1000) (IH : ∀ s ∈ ks, PartOk l f s) : PartOk l f (.mk nm rp 0 ks) := by
  intro i t sa pa ka a sc pc kc cap w hix hg hok hs hp hkk ht
  obtain ⟨it, hit, hz0t, hz1t, hz2t⟩ := info_parts info_tr
  obtain ⟨ik, hik, hz0k, hz1k, hz2k⟩ := info_parts info_ts
  have HPL := Lib.hid (par_length l)
  rw [okT] at hok
  rw [if_neg (by decide), if_neg (by decide), if_neg (by decide), if_neg (by decide)] at hok
  obtain ⟨ht1, ht2, hok3⟩ := hok
  simp only [GoodS] at hg
  simp only [Ix] at hix
  obtain ⟨hil, hie⟩ := List.getElem?_eq_some_iff.1 hix.1
  obtain ⟨bs, os, rfl, hbs, hsc⟩ := hs.pos (by omega)
  have f2 := (fls_get l i hil).2.2.1
  rw [hie] at f2
  dsimp only at f2
  replace f2 := hsc _ _ f2
  rw [← Nat.add_assoc] at f2
  have hR0 : Hid (rest (par l) i (i + 1) = offs (i + 1) ks) := Lib.hid (by
    rw [rest_start (fun j hj => (par_bd l j hj).2), ← kidsOf_kf]; exact hix.2.1)
  have HIX := Lib.hid hix.2.2
  have HGL := Lib.hid hg.2.2.2.2.2.2
  have HOK := Lib.hid hok3
  have HKL := Lib.hid (okK_len hok3)
  have hkl2 : t.kids.length ≤ 1000 := by rw [okK_len hok3]; exact hkl
  have HT1 := Lib.hid (And.intro ht1 ht2)
  have HS := Lib.hid hs; have HP := Lib.hid hp; have HKK := Lib.hid hkk; have HT := Lib.hid ht; have HIH := Lib.hid IH
  clear hs hp hkk ht hix hie hsc hok3 hg IH ht1 ht2
  go_enter Try.func39, Try.ntmps39
  go_upto_block 0 with fail
  have rA := Rw.new w #[.int .i64 t.n, .string t.s, .slice a t.kids.length cap] 48
  generalize hwA : w.alloc (.cells #[.int .i64 t.n, .string t.s, .slice a t.kids.length cap] 48) = wA at *
  have hzA : wA.heap.size = w.heap.size + 1 := by rw [← hwA]; simp
  have hbA : Below w.heap.size w wA := by rw [← hwA]; exact ba (b0 w) _
  have rB := Rw.new' (w := wA) (cur := #[.int .i64 0, .string ⟨#[]⟩, .slice none 0 0]) (t := 48) hzA
  have rA1 := rA.alloc (.cells #[.int .i64 0, .string ⟨#[]⟩, .slice none 0 0] 48)
  generalize hwB : wA.alloc (.cells #[.int .i64 0, .string ⟨#[]⟩, .slice none 0 0] 48) = wB at *
  have hzB : wB.heap.size = w.heap.size + 1 + 1 := by rw [← hwB]; simp [hzA]
  have hbB : Below w.heap.size w wB := by rw [← hwB]; exact ba hbA _
  have rC := Rw.new' (w := wB) (cur := #[.int .i64 0, .string ⟨#[]⟩, .slice none 0 0]) (t := 48) hzB
  have rA2 := rA1.alloc (.cells #[.int .i64 0, .string ⟨#[]⟩, .slice none 0 0] 48)
  have rB2 := rB.alloc (.cells #[.int .i64 0, .string ⟨#[]⟩, .slice none 0 0] 48)
  generalize hwC : wB.alloc (.cells #[.int .i64 0, .string ⟨#[]⟩, .slice none 0 0] 48) = wC at *
  have hbC : Below w.heap.size w wC := by rw [← hwC]; exact ba hbB _
  have RA := Lib.hid rA2; have RB := Lib.hid rB2; have RC := Lib.hid rC; have HBC := Lib.hid hbC
  clear rA rA1 rA2 rB rB2 rC hbA hbB hbC hwA hwB hwC hzA hzB f2
  obtain ⟨T, hT⟩ : ∃ T, T = w.heap.size + 1 + 1 := ⟨_, rfl⟩
  rw [← hT] at RC ⊢
  have hT2 : w.heap.size + 1 < T := by omega
  clear hT
  go_cut [12, 13, 14, 15] from 30 to 79 (fun _ _ _ _ wc => ∃ aK cK xs, Hid (Rw wc T #[.int .i64 0, .string ⟨#[]⟩, .slice aK (keptK f (i + 1) ks t.kids).length cK] 48) ∧ Hid (OKid 60 (T + 1) wc aK (keptK f (i + 1) ks t.kids).length cK (keptK f (i + 1) ks t.kids) xs) ∧ Hid (Below w.heap.size w wc) ∧ Hid (Rw wc (w.heap.size + 1) #[.int .i64 0, .string ⟨#[]⟩, .slice none 0 0] 48))
  case first =>
    go_wp2_with fail
    go_loopw [12, 13, 14, 15] (fun nv jv _ _ wr => ∃ (j : Nat) (done todo : List Sh) (aK : Option Addr) (cK : Nat) (xs : List Value), nv = .int .i64 (done.length : Int) ∧ jv = .int .i64 (j : Int) ∧ j ≤ l.length ∧ Hid (ks = done ++ todo) ∧ Hid (rest (par l) i j = offs (i + 1 + shSizes done) todo) ∧ Hid (IxL l (fun v => kidsOf (par l) v) (i + 1 + shSizes done) todo) ∧
        Hid (Rw wr T #[.int .i64 0, .string ⟨#[]⟩, .slice aK (keptK f (i + 1) done (t.kids.take done.length)).length cK] 48) ∧ Hid (OKid 60 (T + 1) wr aK (keptK f (i + 1) done (t.kids.take done.length)).length cK (keptK f (i + 1) done (t.kids.take done.length)) xs) ∧ Hid (Below w.heap.size w wr) ∧
        Hid (Rw wr (w.heap.size + 1) #[.int .i64 0, .string ⟨#[]⟩, .slice none 0 0] 48) ∧ Hid (Rw wr w.heap.size #[.int .i64 t.n, .string t.s, .slice a t.kids.length cap] 48)) (fun _ jv _ _ _ => l.length - (intOf jv).toNat)
    case atStart => exact ⟨i + 1, [], ks, none, 0, [], rfl, by go_num, hil, Lib.hid rfl, hR0, HIX, Lib.hid (by simpa [keptK] using RC.out), Lib.hid (by simpa [keptK] using OKid.nil _ _ _), HBC, RB, RA⟩
    case round =>
      clear RA RB RC HBC hR0 HIX
      obtain ⟨j, done, todo, aK, cK, xs, rfl, rfl, hj, HD, HRE, HIX, RC, HOKD, HB, RB, RA⟩ := hrel
      have hdl : done.length ≤ ks.length := by have := congrArg List.length HD.out; simp at this; omega
      have hszr := HB.out.size
      by_cases hlt : j < l.length
      · have hjP : j < (par l).length := by rw [HPL.out]; exact hlt
        obtain ⟨pb, po, rfl, hpb, hpc⟩ := HP.out.pos (by omega)
        have c0 := cb HB.out (hpc _ _ (ints_get (par l) j hjP))
        by_cases hp : (par l)[j] = (i : Int)
        · have hry := rest_yes hjP hp
          rw [HRE.out] at hry
          obtain ⟨s, q, hq, hjo, hre2⟩ := offs_cons hry
          have hjo' : j = i + 1 + shSizes done := by omega
          have HJO := Lib.hid hjo'
          obtain ⟨hix, hixr⟩ := ixL_mem s q HIX.out hq
          rw [← hjo'] at hix hixr hre2
          have hdlt : done.length < ks.length := by have := congrArg List.length HD.out; rw [hq] at this; simp at this; omega
          have hdk : done.length < t.kids.length := by rw [HKL.out]; exact hdlt
          have hsg := GoodL_mem HGL.out (show s ∈ ks by rw [HD.out, hq]; simp)
          have hsk : ks[done.length] = s := by simp [HD.out, hq]
          have hok := okK_get HOK.out done.length hdlt hdk
          rw [hsk] at hok
          have HSN : Hid (keptK f (i + 1) (done ++ [s]) (t.kids.take (done.length + 1)) = keptK f (i + 1) done (t.kids.take done.length) ++ (if f j = true then [t.kids[done.length].map (keptT f j s)] else [])) := Lib.hid (by
            rw [List.take_succ_eq_append_getElem hdk, keptK_snoc _ _ _ _ _ (by rw [List.length_take]; omega), ← hjo'])
          have HV := Lib.hid (HIH.out s (show s ∈ ks by rw [HD.out, hq]; simp))
          have HNX : Hid (ks = (done ++ [s]) ++ q ∧ rest (par l) i (j + 1) = offs (i + 1 + shSizes (done ++ [s])) q ∧ IxL l (fun v => kidsOf (par l) v) (i + 1 + shSizes (done ++ [s])) q) := Lib.hid (by
            have e : i + 1 + shSizes (done ++ [s]) = j + s.size := by rw [shSizes_append, hjo']; simp [shSizes]; omega
            rw [e]
            exact ⟨by rw [HD.out, hq]; simp, hre2, hixr⟩)
          have HIXS := Lib.hid hix; have HSG := Lib.hid hsg; have HOKX := Lib.hid hok.2
          have hx50 := okRep_le hok.1
          obtain ⟨kb, ko, rfl, hkb, hkc⟩ := HKK.out.pos (by omega)
          have ck := cb HB.out (hkc _ _ (bls_get f hlt))
          rw [hp] at c0
          obtain ⟨ta, _, tc, txs, hcs, _, hts, htsl, htk⟩ := HT.out.parts
          simp at hcs
          obtain ⟨rfl, rfl, rfl⟩ := hcs
          have HLS : Hid ((done ++ [s]).length = done.length + 1) := Lib.hid (by simp)
          clear hpc hry hix hixr hre2 hsg hq hp hjo hjo' hsk hok hkc HRE HIX HD
          cases hfj : f j with
          | false =>
            rw [hfj] at ck
            have HFJ := Lib.hid hfj
            clear hfj htsl htk hts
            go_wp2_with fail
            go_roundw
            case rel =>
              refine ⟨j + 1, done ++ [s], q, aK, cK, xs, by rw [HLS.out]; go_num, by go_num, by omega, Lib.hid HNX.out.1, Lib.hid HNX.out.2.1, Lib.hid HNX.out.2.2, ?_, ?_, HB, RB, RA⟩
              · have e := HSN.out
                rw [HFJ.out, if_neg (by decide), List.append_nil, ← HLS.out] at e
                rw [e]; exact RC
              · have e := HSN.out
                rw [HFJ.out, if_neg (by decide), List.append_nil, ← HLS.out] at e
                rw [e]; exact HOKD
            case measure => simp [intOf]; omega
          | true =>
            rw [hfj] at ck
            have HFJ := Lib.hid hfj
            obtain ⟨xa, xcap, ys, hxg, hxs, hxr⟩ := htk.get done.length hdk
            obtain ⟨tb, toff, rfl, htb, htc⟩ := htsl.pos (by omega)
            have g0w := htc _ _ hxg
            have HG0 := Lib.hid g0w
            have HXS := Lib.hid hxs; have HXR := Lib.hid hxr
            have HX : Hid (keptK f (i + 1) (done ++ [s]) (t.kids.take (done.length + 1)) = keptK f (i + 1) done (t.kids.take done.length) ++ [t.kids[done.length].map (keptT f j s)]) := Lib.hid (by have e := HSN.out; rw [hfj, if_pos rfl] at e; exact e)
            generalize t.kids[done.length] = x at *
            clear hfj htsl htk hts htc hxg hxs hxr g0w
            have rA := RA.out
            have RAh := Lib.hid rA
            have HKBX := Lib.hid (cb HB.out HG0.out)
            have RAx := RA; have RBx := RB; have RCx := RC; have HOKDx := HOKD; have HBx := HB
            have hTx := RC.out.lt
            go_wp2_with fail
            obtain ⟨wx, rfl⟩ : ∃ wx : World, wx = wr := ⟨_, rfl⟩
            go_loopw [14, 15] (fun lv jv wQ => ∃ (g : Nat) (aL : Option Addr) (cL : Nat) (ys2 : List Value), lv = .slice aL g cL ∧ jv = .int .i64 (g : Int) ∧ g ≤ x.length ∧ Hid (ORow 48 wx.heap.size wQ aL g cL ((x.take g).map (keptT f j s)) ys2) ∧ Hid (Below wx.heap.size wx wQ)) (fun _ jv _ => x.length - (intOf jv).toNat)
            case atStart => exact ⟨0, none, 0, [], rfl, rfl, Nat.zero_le _, Lib.hid (by simpa using ORow.nil _ _ _), Lib.hid (b0 wx)⟩
            case round =>
              obtain ⟨g, aL, cL, ys2, rfl, rfl, hg, HOR, HBQ⟩ := hrel
              have hszq := HBQ.out.size
              have t2 : wr.cell? ⟨w.heap.size, 2, none⟩ = some (.slice (some ⟨tb, toff, none⟩) t.kids.length cap) := (RAh.out.below HBQ.out).cell 2
              have k0 := cb HBQ.out HKBX.out
              by_cases hgl : g < x.length
              · have HSNX : Hid ((x.take (g + 1)).map (keptT f j s) = (x.take g).map (keptT f j s) ++ [keptT f j s x[g]]) := Lib.hid (by rw [List.take_succ_eq_append_getElem hgl, List.map_append]; rfl)
                obtain ⟨xb, xo, rfl, hxb, hxc⟩ := HXS.out.pos (by omega)
                obtain ⟨ya, ym, ycap, yxs, y0, y1, y2, hym, hyss, hysl, hyk⟩ := HXR.out.get g hgl
                have c0 := cb HBQ.out (cb HB.out (hxc _ _ y0))
                have c1 := cb HBQ.out (cb HB.out (hxc _ _ y1))
                have c2 := cb HBQ.out (cb HB.out (hxc _ _ y2))
                have HOKG := Lib.hid (HOKX.out _ (List.getElem_mem hgl))
                subst hym
                have HTG := Lib.hid (TrAt.mk' hyss hysl hyk)
                have HBW := Lib.hid (bt HB.out HBQ.out)
                rw [← Nat.add_assoc] at c1 c2
                generalize x[g] = y at *
                clear hxc y0 y1 y2 hyss hysl hyk
                go_wp2_with fail
                refine (HV.out j y _ _ _ _ _ _ _ _ wr HIXS.out HSG.out HOKG.out (slb HS.out HBW.out) (slb HP.out HBW.out) (slb HKK.out HBW.out) (TrAt.below HBW.out _ _ HTG.out)).mono ?_
                rintro e w2 ⟨a2, m2, c2', rfl, ht, hb2⟩
                generalize keptT f j s y = r at *
                have hsz2 := hb2.size
                have hor2 := HOR.out.chg (chF hb2) (fun b _ h => h)
                have HOR2 := Lib.hid (hor2.chg ((Chg.refl (fun _ => False) w2).alloc (.cells #[.int .i64 r.n, .string r.s, .slice a2 m2 c2'] 48)) (fun _ _ h => h))
                have hlt2 := HOR.out.lt
                have HT2 := Lib.hid (TrG.go (ok' := fun b => wx.heap.size ≤ b ∧ ¬ blk aL b) ((Chg.refl (fun _ => False) w2).alloc (.cells #[.int .i64 r.n, .string r.s, .slice a2 m2 c2'] 48)) (fun b _ hb => ⟨fun h => h, by omega, fun h => by have := hlt2 b h; omega⟩) ht)
                have HOO := Lib.hid hor2.own
                have HC2 := Lib.hid (bt HBQ.out hb2)
                have hg50 : g ≤ 50 := by omega
                clear hb2 ht hor2 hlt2
                have tok1 : True := trivial
                go_wp2_with (first
                  | (at_builtin; have _t := tok1; clear tok1; clear _t; refine wpList_append (B := wx.heap.size) rfl _ _ _ _ rfl it (.agg #[.int .i64 0, .string ByteArray.empty, .slice none 0 0]) 48 Try.underlying60 hit hz0t hz1t hz2t rfl rfl (HOO.out.alloc _) _ rfl _ _ (src_built (e' := 48) Try.underlying60 w2 #[.int .i64 r.n, .string r.s, .slice a2 m2 c2'] 48 1 3 rfl (by simp [Value.oneCell'])) (by simp only [maxLen]; omega) (by omega) (by first | omega | (simp; omega) | simp) ?_; intro a5 cap5 w5 ho5 hc5 hn5); (have HOR5 := Lib.hid (ORow.push HOR2.out HT2.out ho5 hc5 hn5)); (have HC5 := Lib.hid hc5); clear ho5 hc5 hn5
                  | fail)
                go_roundw
                case rel => exact ⟨g + 1, a5, cap5, ys2 ++ [.int .i64 r.n, .string r.s, .slice a2 m2 c2'], rfl, by go_num, by omega, Lib.hid (by rw [HSNX.out]; exact HOR5.out), Lib.hid (Chg.bt (ba HC2.out _) HC5.out (fun b hb h => by have := h.2.1; omega))⟩
                case measure => simp [intOf]; omega
              · obtain rfl : g = x.length := by omega
                rw [List.take_length] at HOR
                have hokq := HOKDx.out.chg (chF HBQ.out) (fun b _ h => h)
                have HOKA := Lib.hid (hokq.chg ((Chg.refl (fun _ => False) wr).alloc (.cells #[.slice aL x.length cL] 60)) (fun _ _ h => h))
                have HKO := Lib.hid hokq.own
                have hltK := HOKDx.out.lt
                have hsl := HOR.out.sl
                have HSL := Lib.hid (Sl.go (ok' := fun b => T + 1 ≤ b ∧ ¬ blk aK b) ((Chg.refl (fun _ => False) wr).alloc (.cells #[.slice aL x.length cL] 60)) (fun b _ hb => ⟨fun h => h, by omega, fun h => by have := hltK b h; omega⟩) hsl.1 (by decide))
                have HRW := Lib.hid (RowG.go (ok' := fun b => T + 1 ≤ b ∧ ¬ blk aK b) ((Chg.refl (fun _ => False) wr).alloc (.cells #[.slice aL x.length cL] 60)) (fun b _ hb => ⟨fun h => h, by omega, fun h => by have := hltK b h; omega⟩) hsl.2)
                have hgl := HOR.out.len
                have HGLX := Lib.hid hgl
                have rT := RCx.out.below HBQ.out
                have rB := RBx.out.below HBQ.out
                have rA := RAh.out.below HBQ.out
                have t2' : wr.cell? ⟨T, 2, none⟩ = some (.slice aK (keptK f (i + 1) done (t.kids.take done.length)).length cK) := rT.cell 2
                have tl := rT.lt
                have HRT := Lib.hid rT; have HRB := Lib.hid rB; have HRA := Lib.hid rA
                have HBW := Lib.hid (bt HBx.out HBQ.out)
                have hkl3 : (keptK f (i + 1) done (t.kids.take done.length)).length ≤ 1000 := Nat.le_trans (keptK_len_le _ _ _) (by omega)
                clear hokq hsl rT rB rA hltK hgl
                generalize hkd : keptK f (i + 1) done (t.kids.take done.length) = kd at *
                have tok1 : True := trivial
                go_wp2_with (first
                  | (at_builtin; have _t := tok1; clear tok1; clear _t; refine wpList_append (B := T + 1) rfl _ _ _ _ rfl ik (.slice none 0 0) 24 Try.underlying46 hik hz0k hz1k hz2k rfl rfl (HKO.out.alloc _) _ rfl _ _ (src_built (e' := 60) Try.underlying46 wr #[.slice aL x.length cL] 60 1 1 rfl (by simp [Value.oneCell'])) (by simp only [maxLen]; omega) (by omega) (by first | omega | (simp; omega) | simp) ?_; intro a5 cap5 w5 ho5 hc5 hn5); (have HOK5 := Lib.hid (OKid.push HOKA.out HGLX.out HSL.out HRW.out ho5 hc5 hn5)); (have r5 := (HRT.out.alloc (.cells #[.slice aL x.length cL] 60)).chg hc5 (show ¬ _ by rintro ⟨_, h, _⟩; omega)); (have t5 : w5.cell? ⟨T, 2, none⟩ = some (.slice aK kd.length cK) := r5.cell 2); (have t5f := r5.frozen); (have t5l := r5.lt); (have HR5 := Lib.hid r5); (have HC5 := Lib.hid hc5); clear ho5 hc5 hn5 r5 t2' tl
                  | fail)
                go_roundw
                case rel =>
                  have hch : Chg (fun b => b = T) w5 (w5.setCell ⟨T, 2, none⟩ (.slice a5 (kd.length + 1) cap5)) := (Chg.refl (fun b => b = T) w5).setCell (p := ⟨T, 2, none⟩) (.inr rfl) _
                  have hXX := HX.out
                  have hbw5 : Below w.heap.size w w5 := Chg.bt (ba HBW.out _) HC5.out (fun b hb h => by have := h.2.1; omega)
                  rw [← HLS.out] at hXX
                  refine ⟨j + 1, done ++ [s], q, a5, cap5, xs ++ [.slice aL x.length cL], by rw [HLS.out]; go_num, by go_num, by omega, Lib.hid HNX.out.1, Lib.hid HNX.out.2.1, Lib.hid HNX.out.2.2, Lib.hid ?_, Lib.hid ?_, Lib.hid ?_, Lib.hid ?_, Lib.hid ?_⟩
                  · rw [hXX, List.length_append, List.length_singleton]; exact HR5.out.set 2 _
                  · rw [hXX, List.length_append, List.length_singleton]
                    exact HOK5.out.chg hch (fun b hb h => by have h' : b = T := h; omega)
                  · exact Chg.bt hbw5 hch (fun b hb h => by have h' : b = T := h; omega)
                  · exact ((HRB.out.alloc (.cells #[.slice aL x.length cL] 60)).chg HC5.out (show ¬ _ by rintro ⟨_, h, _⟩; omega)).other (p := ⟨T, 2, none⟩) (by show w.heap.size + 1 ≠ T; omega) _
                  · exact ((HRA.out.alloc (.cells #[.slice aL x.length cL] 60)).chg HC5.out (show ¬ _ by rintro ⟨_, h, _⟩; omega)).other (p := ⟨T, 2, none⟩) (by show w.heap.size ≠ T; omega) _
                case measure => simp [intOf]; omega
        · have hpb2 : (((par l)[j]) != (i : Int)) = true := by simp [hp]
          have hrn := rest_no hjP hp
          rw [HRE.out] at hrn
          have HRN := Lib.hid hrn.symm
          generalize (par l)[j] = pj at *
          clear hpc hrn hp
          go_wp2_with fail
          go_roundw
          case rel => exact ⟨j + 1, done, todo, aK, cK, xs, rfl, by go_num, by omega, HD, HRN, HIX, RC, HOKD, HB, RB, RA⟩
          case measure => simp [intOf]; omega
      · obtain rfl : j = l.length := by omega
        have hre := HRE.out
        rw [rest_end (by rw [HPL.out]; exact Nat.le_refl _)] at hre
        have htd := offs_nil hre.symm
        subst htd
        have hd : done = ks := by rw [HD.out]; simp
        subst hd
        have hkt : t.kids.take done.length = t.kids := List.take_of_length_le (by rw [HKL.out]; exact Nat.le_refl _)
        rw [hkt] at RC HOKD
        clear hre HRE hkt
        go_wp2_with fail
        go_meet
        case rel => exact ⟨aK, cK, xs, RC, HOKD, HB, RB⟩
  case rest =>
    obtain ⟨aK, cK, xs, RC, HOKD, HB, RB⟩ := hcut
    have HE : Hid (keptT f i (.mk nm rp 0 ks) t = .mk 0 ⟨#[]⟩ (keptK f (i + 1) ks t.kids)) := Lib.hid (by
      have h1 := HT1.out.1
      have h2 := HT1.out.2
      simp only [keptT]
      rw [h1, h2])
    have hlen := HOKD.out.len
    generalize keptK f (i + 1) ks t.kids = kd at *
    have t0 : wc.cell? ⟨T, 0, none⟩ = some (.int .i64 0) := RC.out.cell 0
    have t1 : wc.cell? ⟨T, 1, none⟩ = some (.string ⟨#[]⟩) := RC.out.cell 1
    have t2 : wc.cell? ⟨T, 2, none⟩ = some (.slice aK kd.length cK) := RC.out.cell 2
    have z0 : wc.cell? ⟨w.heap.size + 1, 0, none⟩ = some (.int .i64 0) := RB.out.cell 0
    have z1 : wc.cell? ⟨w.heap.size + 1, 1, none⟩ = some (.string ⟨#[]⟩) := RB.out.cell 1
    have z2 : wc.cell? ⟨w.heap.size + 1, 2, none⟩ = some (.slice none 0 0) := RB.out.cell 2
    have zl := RB.out.lt
    have zf := RB.out.frozen
    clear hlen
    go_wp2_with fail
    refine bodyPost_ret (v := .agg #[.int .i64 0, .string ⟨#[]⟩, .slice aK kd.length cK]) (by simp [results, Try.results39, go_sem, z0, z1, z2]) rfl ?_
    rw [HE.out]
    have h2 : Chg (fun b => b = w.heap.size + 1) wc (((wc.setCell ⟨w.heap.size + 1, 0, none⟩ (.int .i64 0)).setCell ⟨w.heap.size + 1, 1, none⟩ (.string ⟨#[]⟩)).setCell ⟨w.heap.size + 1, 2, none⟩ (.slice aK kd.length cK)) := (((Chg.refl (fun b => b = w.heap.size + 1) wc).setCell (p := ⟨w.heap.size + 1, 0, none⟩) (.inr rfl) _).setCell (p := ⟨w.heap.size + 1, 1, none⟩) (.inr rfl) _).setCell (p := ⟨w.heap.size + 1, 2, none⟩) (.inr rfl) _
    have hok := HOKD.out.sl
    refine ⟨aK, kd.length, cK, rfl, ?_, Chg.bt HB.out h2 (fun b hb h => by have h' : b = w.heap.size + 1 := h; omega)⟩
    exact TrG.mk' sz0 (Sl.go h2 (fun b _ hb => ⟨by omega, by omega⟩) hok.1 (by decide)) (KidG.go h2 (fun b _ hb => ⟨by omega, by omega⟩) hok.2)
/-- part: what is kept of a tree. -/
theorem part_all (l : List Fl) (f : Nat → Bool) (hll : l.length ≤ 1000) : ∀ (N : Nat) (s : Sh), s.size ≤ N → N ≤ 1000 → PartOk l f s
  | 0, .mk _ _ _ _, h, _ => by simp [Sh.size] at h
  | N + 1, .mk nm rp kd ks, h, hN => by
    by_cases hk : kd = 0
    · subst hk
      simp only [Sh.size] at h
      have hkl := kids_sizes ks
      refine part_grp l f hll nm rp ks (by omega) (fun s hs => part_all l f hll N s ?_ (by omega))
      have : ∀ (q : List Sh), s ∈ q → s.size ≤ shSizes q := by
        intro q
        induction q with
        | nil => intro h; cases h
        | cons x q ih =>
          intro h
          rcases List.mem_cons.1 h with rfl | h
          · simp [shSizes]
          · have := ih h; simp only [shSizes]; omega
      have := this ks hs
      omega
    · exact part_leaf l f hll _ hk
end Go.Proofs.Ytgpffcgkfgiodaa
