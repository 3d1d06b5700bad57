/-
  The walk of project's parter.
-/
import Derived.Test.YtgpffcgkfgiodaaPart7
import Derived.Test.YtgpffcgkfgiodaaClone7
import Derived.Deep.CutRange
import Derived.Deep.CutBlock
set_option linter.unusedSimpArgs false
namespace Go.Proofs.Ytgpffcgkfgiodaa
open Go.RowKit Go.Shr
/-- A parter that is read. -/
def PtAt (w : World) (b : Nat) (l : List Fl) (f : Nat → Bool) : Prop := ∃ sa sc ka kc bk, Rw w b #[.slice sa l.length sc, .slice ka l.length kc, .slice (some ⟨bk, 0, none⟩) l.length l.length] 78 ∧ Sl (fun b => b < w.heap.size) w 1 ka l.length kc (bls f l.length) ∧ KidsAt w bk l.length (fun k => kidsOf (par l) k)
theorem PtAt.below {w w' : World} {b : Nat} {l : List Fl} {f : Nat → Bool} (h : PtAt w b l f) (hb : Below w.heap.size w w') : PtAt w' b l f := by
  obtain ⟨sa, sc, ka, kc, bk, h1, h2, h3⟩ := h
  exact ⟨sa, sc, ka, kc, bk, h1.below hb, slb h2 hb, h3.below hb⟩
def KeepOk (l : List Fl) (f : Nat → Bool) (s : Sh) : Prop := ∀ (i : Nat) (t : Tr) (b : Nat) (a : Option Addr) (cap : Nat) (w : World), Ix l (fun v => kidsOf (par l) v) i s → GoodS s → okT s t → PtAt w b l f →
  TrAt w t [.int .i64 t.n, .string t.s, .slice a t.kids.length cap] →
  Calls Try.prog 38 #[.pointer (some ⟨b, 0, none⟩), .int .i64 (i : Int), .agg #[.int .i64 t.n, .string t.s, .slice a t.kids.length cap]] w (MakeQ (keptT f i s t) w)
theorem ixL_at7 {l : List Fl} {K : Int → List Int} : ∀ (ks : List Sh) (o j : Nat) (h : j < ks.length), IxL l K o ks → (offs o ks)[j]? = some ((o + shSizes (ks.take j) : Nat) : Int) ∧ Ix l K (o + shSizes (ks.take j)) ks[j]
  | s :: r, o, 0, _, h => by simp only [IxL] at h; simpa [offs, shSizes] using h.1
  | s :: r, o, j + 1, hj, h => by
    simp only [IxL] at h
    have ih := ixL_at7 r (o + s.size) j (by simpa using hj) h.2
    simp only [offs, List.take_succ_cons, shSizes, List.getElem?_cons_succ, List.getElem_cons_succ, ← Nat.add_assoc]
    exact ih
set_option maxHeartbeats 4000000 in
set_option maxRecDepth 100000 in
theorem keep_step (l : List Fl) (f : Nat → Bool) (hll : l.length ≤ 1000) (nm : ByteArray) (rp kd : Int) (ks : List Sh) (hkl : ks.length ≤ 1000) (IH : ∀ s ∈ ks, KeepOk l f s) : KeepOk l f (.mk nm rp kd ks) := by
  intro i t b a cap w hix hg hok hp ht
  obtain ⟨it, hit, hz0t, hz1t, hz2t⟩ := info_parts info_tr
  obtain ⟨ik, hik, hz0k, hz1k, hz2k⟩ := info_parts info_ts
  have hok3 := okK_nil hg hok
  simp only [GoodS] at hg
  simp only [Ix] at hix
  have hil : i < l.length := (List.getElem?_eq_some_iff.1 hix.1).1
  have hKO : kidsOf (par l) (i : Int) = offs (i + 1) ks := hix.2.1
  have HIX := Lib.hid hix.2.2
  have HGL := Lib.hid hg.2.2.2.2.2.2
  have HOK := Lib.hid hok3
  have hklt := okK_len hok3
  have HKL := Lib.hid hklt
  have hkl2 : t.kids.length ≤ 1000 := by rw [hklt]; exact hkl
  obtain ⟨ta, _, tc, txs, hcs, _, hts, htsl, htk⟩ := ht.parts
  simp at hcs
  obtain ⟨rfl, rfl, rfl⟩ := hcs
  have HTS := Lib.hid hts; have HTSL := Lib.hid htsl; have HTK := Lib.hid htk
  obtain ⟨sa, sc, ka, kc, bk, hrw, hke, hkd⟩ := id hp
  obtain ⟨ak, ck, hk0, hks⟩ := hkd i hil
  dsimp only at hk0 hks
  rw [hKO, offs_len] at hk0 hks
  have q1 : w.cell? ⟨b, 2, none⟩ = some (.slice (some ⟨bk, 0, none⟩) l.length l.length) := hrw.cell 2
  have hbl := hrw.lt
  have hbkl := World.block_lt_of_cell? w _ hk0
  dsimp only at hbkl
  have HRW := Lib.hid hrw; have HKE := Lib.hid hke; have HKS := Lib.hid hks
  have HP := Lib.hid hp; have HIH := Lib.hid IH
  clear hp ht hix hok3 hg IH hts hok htsl htk hrw hke hkd hks hKO hklt
  go_enter Try.func38, Try.ntmps38
  go_upto_region 2 with fail
  obtain ⟨wx, hwx⟩ : ∃ wx, wx = ((w.alloc (.cells #[.int .i64 t.n, .string t.s, .slice a t.kids.length cap] 48)).alloc (.cells #[.int .i64 0, .string ⟨#[]⟩, .slice none 0 0] 48)).alloc (.cells #[.int .i64 t.n, .string t.s, .slice none 0 0] 48) := ⟨_, rfl⟩
  have hbx : Below w.heap.size w wx := by rw [hwx]; exact ba (ba (ba (b0 w) _) _) _
  have rA : Rw wx w.heap.size #[.int .i64 t.n, .string t.s, .slice a t.kids.length cap] 48 := by rw [hwx]; exact ((Rw.new w _ _).alloc _).alloc _
  have rB : Rw wx (w.heap.size + 1) #[.int .i64 0, .string ⟨#[]⟩, .slice none 0 0] 48 := by rw [hwx]; exact (Rw.new' (by simp)).alloc _
  have rC : Rw wx (w.heap.size + 1 + 1) #[.int .i64 t.n, .string t.s, .slice none 0 0] 48 := by rw [hwx]; exact Rw.new' (by simp)
  have hzx : wx.heap.size = w.heap.size + 1 + 1 + 1 := by rw [hwx]; simp
  rw [← hwx]
  clear hwx
  replace q1 := cb hbx q1
  replace hk0 := cb hbx hk0
  have RA := Lib.hid rA; have RB := Lib.hid rB; have RC := Lib.hid rC; have HBX := Lib.hid hbx
  obtain ⟨T, hT⟩ : ∃ T, T = w.heap.size + 1 + 1 := ⟨_, rfl⟩
  rw [← hT] at RC ⊢
  have hT2 : w.heap.size + 1 < T := by omega
  have hTx : T < wx.heap.size := by omega
  have hi0 : (0 : Int) ≤ (i : Int) := by omega
  have hi1 : (i : Int) < (l.length : Int) := by omega
  clear rA rB rC hbx hzx hT hbl hbkl
  go_wp2_with fail
  clear q1 hk0
  go_loopw [26] (fun kv wr => ∃ (done todo : List Sh) (aK : Option Addr) (cK : Nat) (xs : List Value), kv = .int .i64 (done.length : Int) ∧ Hid (ks = done ++ todo) ∧
      Hid (Rw wr T #[.int .i64 t.n, .string t.s, .slice aK (keptK f (i + 1) done (t.kids.take done.length)).length cK] 48) ∧ Hid (OKid 60 (T + 1) wr aK (keptK f (i + 1) done (t.kids.take done.length)).length cK (keptK f (i + 1) done (t.kids.take done.length)) xs) ∧ Hid (Below w.heap.size w wr) ∧
      Hid (Rw wr (w.heap.size + 1) #[.int .i64 0, .string ⟨#[]⟩, .slice none 0 0] 48) ∧ Hid (Rw wr w.heap.size #[.int .i64 t.n, .string t.s, .slice a t.kids.length cap] 48)) (fun kv _ => ks.length - (intOf kv).toNat)
  case atStart => exact ⟨[], ks, none, 0, [], rfl, Lib.hid rfl, Lib.hid (by simpa [keptK] using RC.out), Lib.hid (by simpa [keptK] using OKid.nil _ _ _), HBX, RB, RA⟩
  case round =>
    clear RA RB RC HBX
    obtain ⟨done, todo, aK, cK, xs, rfl, HD, RC, HOKD, HB, RB, RA⟩ := hrel
    have hdl : done.length ≤ ks.length := by have := congrArg List.length HD.out; simp at this; omega
    have hszr := HB.out.size
    have hTr := RC.out.lt
    by_cases hlt : done.length < ks.length
    · obtain ⟨s, q, hq⟩ : ∃ s q, todo = s :: q := by
        cases todo with
        | nil => have := congrArg List.length HD.out; simp at this; omega
        | cons s q => exact ⟨s, q, rfl⟩
      have htd : ks.take done.length = done := by rw [HD.out]; simp
      have hsk : ks[done.length] = s := by simp [HD.out, hq]
      obtain ⟨ho, hixs⟩ := ixL_at7 ks (i + 1) done.length hlt HIX.out
      rw [htd] at ho hixs
      rw [hsk] at hixs
      obtain ⟨o, hoo⟩ : ∃ o, o = i + 1 + shSizes done := ⟨_, rfl⟩
      rw [← hoo] at ho hixs
      have hol : o < l.length := by
        obtain ⟨_, _, _, _⟩ := s
        simp only [Ix] at hixs
        exact (List.getElem?_eq_some_iff.1 hixs.1).1
      have hdk : done.length < t.kids.length := by rw [HKL.out]; exact hlt
      have hsm : s ∈ ks := by rw [HD.out, hq]; simp
      have hsg := GoodL_mem HGL.out hsm
      have hok := okK_get HOK.out done.length hlt hdk
      rw [hsk] at hok
      have HSN : Hid (keptK f (i + 1) (done ++ [s]) (t.kids.take (done.length + 1)) = keptK f (i + 1) done (t.kids.take done.length) ++ (if f o = true then [t.kids[done.length].map (keptT f o s)] else [])) := Lib.hid (by
        rw [List.take_succ_eq_append_getElem hdk, keptK_snoc _ _ _ _ _ (by rw [List.length_take]; omega), ← hoo])
      have HV := Lib.hid (HIH.out s hsm)
      have HNX : Hid (ks = (done ++ [s]) ++ q) := Lib.hid (by rw [HD.out, hq]; simp)
      have HIXS := Lib.hid hixs; have HSG := Lib.hid hsg; have HOKX := Lib.hid hok.2
      have hx50 := okRep_le hok.1
      have HLS : Hid ((done ++ [s]).length = done.length + 1) := Lib.hid (by simp)
      obtain ⟨kb, ko, rfl, hkb, hkc⟩ := HKS.out.pos (by omega)
      obtain ⟨eb, eo, rfl, heb, hec⟩ := HKE.out.pos (by omega)
      have hio : (ints (offs (i + 1) ks))[done.length]? = some (.int .i64 (o : Int)) := by simp only [ints, List.getElem?_map, ho]; rfl
      have g0 := cb HB.out (hkc _ _ hio)
      have ck := cb HB.out (hec _ _ (bls_get f hol))
      have r1 : wr.cell? ⟨b, 1, none⟩ = some (.slice (some ⟨eb, eo, none⟩) l.length kc) := (HRW.out.below HB.out).cell 1
      have z2 : wr.cell? ⟨w.heap.size, 2, none⟩ = some (.slice a t.kids.length cap) := RA.out.cell 2
      have hkg : ((done.length : Int) ≥ (t.kids.length : Int)) = False := by simp; omega
      clear ho hixs hsk htd hq hsm hsg hok hkc hec hio HIX HD hoo
      cases hfo : f o with
      | false =>
        rw [hfo] at ck
        have HFO := Lib.hid hfo
        clear hfo
        go_wp2_with fail
        go_roundw
        case rel =>
          have e := HSN.out
          rw [HFO.out, if_neg (by decide), List.append_nil, ← HLS.out] at e
          refine ⟨done ++ [s], q, aK, cK, xs, by rw [HLS.out]; go_num, HNX, ?_, ?_, HB, RB, RA⟩
          · rw [e]; exact RC
          · rw [e]; exact HOKD
        case measure => simp [intOf]; omega
      | true =>
        rw [hfo] at ck
        have HFO := Lib.hid hfo
        obtain ⟨xa, xcap, ys, hxg, hxs, hxr⟩ := HTK.out.get done.length hdk
        obtain ⟨tb, toff, rfl, htb, htc⟩ := HTSL.out.pos (by omega)
        have g1 := cb HB.out (htc _ _ hxg)
        have HXS := Lib.hid hxs; have HXR := Lib.hid hxr
        have HX : Hid (keptK f (i + 1) (done ++ [s]) (t.kids.take (done.length + 1)) = keptK f (i + 1) done (t.kids.take done.length) ++ [t.kids[done.length].map (keptT f o s)]) := Lib.hid (by have e := HSN.out; rw [hfo, if_pos rfl] at e; exact e)
        generalize t.kids[done.length] = x at *
        clear hfo htc hxg hxs hxr
        have HRAx := RA; have HRBx := RB; have HRCx := RC; have HOKDx := HOKD; have HBx := HB
        go_wp2_with fail
        clear g0 g1 ck r1 z2
        obtain ⟨wy, rfl⟩ : ∃ wy : World, wy = wr := ⟨_, rfl⟩
        go_loopw [10, 52] (fun lv jv wQ => ∃ (g : Nat) (aL : Option Addr) (cL : Nat) (ys2 : List Value), lv = .slice aL g cL ∧ jv = .int .i64 (g : Int) ∧ g ≤ x.length ∧ Hid (ORow 48 wy.heap.size wQ aL g cL ((x.take g).map (keptT f o s)) ys2) ∧ Hid (Below wy.heap.size wy wQ)) (fun _ jv _ => x.length - (intOf jv).toNat)
        case atStart => exact ⟨0, none, 0, [], rfl, rfl, Nat.zero_le _, Lib.hid (by simpa using ORow.nil _ _ _), Lib.hid (b0 wy)⟩
        case round =>
          obtain ⟨g, aL, cL, ys2, rfl, rfl, hg, HOR, HBQ⟩ := hrel
          have hszq := HBQ.out.size
          by_cases hgl : g < x.length
          · have HSNX : Hid ((x.take (g + 1)).map (keptT f o s) = (x.take g).map (keptT f o s) ++ [keptT f o s x[g]]) := Lib.hid (by rw [List.take_succ_eq_append_getElem hgl, List.map_append]; rfl)
            obtain ⟨xb, xo, rfl, hxb, hxc⟩ := HXS.out.pos (by omega)
            obtain ⟨ya, ym, ycap, yxs, y0, y1, y2, hym, hyss, hysl, hyk⟩ := HXR.out.get g hgl
            have c0 := cb HBQ.out (cb HBx.out (hxc _ _ y0))
            have c1 := cb HBQ.out (cb HBx.out (hxc _ _ y1))
            have c2 := cb HBQ.out (cb HBx.out (hxc _ _ y2))
            have HOKG := Lib.hid (HOKX.out _ (List.getElem_mem hgl))
            subst hym
            have HTG := Lib.hid (TrAt.mk' hyss hysl hyk)
            have HBW := Lib.hid (bt HBx.out HBQ.out)
            rw [← Nat.add_assoc] at c1 c2
            generalize x[g] = y at *
            clear hxc y0 y1 y2 hyss hysl hyk
            go_wp2_with fail
            refine cgen (fun w1 hw1 => ?_)
            have hb1 : Below wr.heap.size wr w1 := by rw [hw1]; exact ba (b0 _) _
            have HB1 := Lib.hid (bt HBQ.out hb1)
            have HBW1 := Lib.hid (bt HBW.out hb1)
            have hor1 := HOR.out.chg (chF hb1) (fun b _ h => h)
            have hz1 := hb1.size
            clear hw1 hb1 c0 c1 c2
            refine (HV.out o y _ _ _ w1 HIXS.out HSG.out HOKG.out (HP.out.below HBW1.out) (TrAt.below HBW1.out _ _ HTG.out)).mono ?_
            rintro e w2 ⟨a2, m2, c2', rfl, ht, hb2⟩
            generalize keptT f o s y = r at *
            have hsz2 := hb2.size
            have hor2 := hor1.chg (chF hb2) (fun b _ h => h)
            have HOR2 := Lib.hid (hor2.chg ((Chg.refl (fun _ => False) w2).alloc (.cells #[.int .i64 r.n, .string r.s, .slice a2 m2 c2'] 48)) (fun _ _ h => h))
            have hlt2 := hor1.lt
            have HT2 := Lib.hid (TrG.go (ok' := fun b => wy.heap.size ≤ b ∧ ¬ blk aL b) ((Chg.refl (fun _ => False) w2).alloc (.cells #[.int .i64 r.n, .string r.s, .slice a2 m2 c2'] 48)) (fun b _ hb => ⟨fun h => h, by omega, fun h => by have := hlt2 b h; omega⟩) ht)
            have HOO := Lib.hid hor2.own
            have HC2 := Lib.hid (bt HB1.out hb2)
            have hg50 : g ≤ 50 := by omega
            clear hb2 ht hor2 hlt2 hor1
            have tok1 : True := trivial
            go_wp2_with (first
              | (at_builtin; have _t := tok1; clear tok1; clear _t; refine wpList_append (B := wy.heap.size) rfl _ _ _ _ rfl it (.agg #[.int .i64 0, .string ByteArray.empty, .slice none 0 0]) 48 Try.underlying60 hit hz0t hz1t hz2t rfl rfl (HOO.out.alloc _) _ rfl _ _ (src_built (e' := 48) Try.underlying60 w2 #[.int .i64 r.n, .string r.s, .slice a2 m2 c2'] 48 1 3 rfl (by simp [Value.oneCell'])) (by simp only [maxLen]; omega) (by omega) (by first | omega | (simp; omega) | simp) ?_; intro a5 cap5 w5 ho5 hc5 hn5); (have HOR5 := Lib.hid (ORow.push HOR2.out HT2.out ho5 hc5 hn5)); (have HC5 := Lib.hid hc5); clear ho5 hc5 hn5
              | fail)
            go_roundw
            case rel => exact ⟨g + 1, a5, cap5, ys2 ++ [.int .i64 r.n, .string r.s, .slice a2 m2 c2'], rfl, by go_num, by omega, Lib.hid (by rw [HSNX.out]; exact HOR5.out), Lib.hid (Chg.bt (ba HC2.out _) HC5.out (fun b hb h => by have := h.2.1; omega))⟩
            case measure => simp [intOf]; omega
          · obtain rfl : g = x.length := by omega
            rw [List.take_length] at HOR
            have hltK0 := HOKDx.out.lt
            have HOKR := Lib.hid (HOKDx.out.chg (chF HBQ.out) (fun b _ h => h))
            have HRT := Lib.hid (HRCx.out.below HBQ.out)
            have HT2 : Hid (wr.cell? ⟨T, 2, none⟩ = some (.slice aK (keptK f (i + 1) done (t.kids.take done.length)).length cK)) := Lib.hid (HRT.out.cell 2)
            have hkl3 : (keptK f (i + 1) done (t.kids.take done.length)).length ≤ 1000 := Nat.le_trans (keptK_len_le _ _ _) (by omega)
            have hgl := HOR.out.len
            have HGLX := Lib.hid hgl
            clear hgl
            generalize hkd : keptK f (i + 1) done (t.kids.take done.length) = kd at *
            clear hkd
            generalize hxm : x.map (keptT f o s) = xm at *
            clear hxm
            go_wp2_with fail
            refine Go.Shr.wp_region_F (fun w' => w'.cell? ⟨T, 2, none⟩ = some (.slice aK kd.length cK)) [7] (by kernel_rfl) ?g5rgS (fun hHeld => ?g5rgR)
            case g5rgS => (try dsimp only); (first | exact HT2.out | exact r5.cell 2)
            try dsimp only at hHeld
            obtain ⟨W, hW⟩ : ∃ W, W = wr.drew := ⟨_, rfl⟩; rw [← hW] at hHeld ⊢; (have r5 := Rw.ren hW HRT.out.drew); (have hbW : Below wy.heap.size wy W := by rw [hW]; exact HBQ.out.drew); (have hor : ORow 48 wy.heap.size W aL x.length cL xm ys2 := by rw [hW]; exact HOR.out.chg (Chg.refl (fun _ => False) wr).drew (fun _ _ h => h)); (have hokW : OKid 60 (T + 1) W aK kd.length cK kd xs := by rw [hW]; exact HOKR.out.chg (Chg.refl (fun _ => False) wr).drew (fun _ _ h => h)); clear hW
            refine Go.Shr.wpAnyF_take 0 (oi := { dst := some 64, op := Go.Op.fieldAddr 48 (Go.Operand.tmp 7) 2, type := 0, pos := "project.go:92", after := #[], guard := none }) (v := ?g5rv1) rfl (by kernel_rfl) (fun _ _ _ h => h) (by assumption) (by rfl) ?g5ry1 ?g5rr1
            case g5ry1 => intro w hSw; have s1 := hSw; go_simp; try with_reducible rfl
            try simp only [Act.put, List.setIfInBounds_toArray, List.set_cons_zero, List.set_cons_succ]
            refine Go.Shr.wpAnyF_take 1 (oi := { dst := some 65, op := Go.Op.load 46 (Go.Operand.tmp 64), type := 46, pos := "project.go:92", after := #[{ on := 0, ground := Go.Ground.data }], guard := none }) (v := ?g5rv2) rfl (by kernel_rfl) (fun _ _ _ h => h) (by assumption) (by rfl) ?g5ry2 ?g5rr2
            case g5ry2 => intro w hSw; have s1 := hSw; go_simp; try with_reducible rfl
            try simp only [Act.put, List.setIfInBounds_toArray, List.set_cons_zero, List.set_cons_succ]
            refine Go.Shr.wpAnyF_take 2 (oi := { dst := some 66, op := Go.Op.move (Go.Operand.tmp 10), type := 60, pos := "project.go:92", after := #[], guard := none }) (v := ?g5rv3) rfl (by kernel_rfl) (fun _ _ _ h => h) (by assumption) (by rfl) ?g5ry3 ?g5rr3
            case g5ry3 => intro w hSw; have s1 := hSw; go_simp; try with_reducible rfl
            try simp only [Act.put, List.setIfInBounds_toArray, List.set_cons_zero, List.set_cons_succ]
            refine Go.Shr.wpAnyF_ready [3] (by kernel_rfl) (by simp) ?_
            refine Go.Shr.AllReadyF.cons 3 (o := { dst := some 67, op := Go.Op.call { callee := Go.Callee.value (Go.Operand.func 50), args := #[Go.Operand.tmp 66], argTypes := #[60] }, type := 60, pos := "project.go:92", after := #[{ on := 2, ground := Go.Ground.data }], guard := none }) rfl (fun K hK => ?g5ro4) ?g5rm4
            case g5rm4 => exact Go.Shr.AllReadyF.nil
            (have hWs := hbW.size); (have htW := r5.lt); (have hsl := hor.sl); go_simp; refine (clone_t _ aL x.length cL ys2 W hsl.1 (RowG.one' hsl.2) (by omega)).mono ?_; rintro en W2 ⟨a2, c2, rfl, ho2, hb2⟩; dsimp only; (replace r5 := r5.below hb2); (have hok2 := hokW.chg (chF hb2) (fun b _ h => h)); (have hsx2 : Sl (fun b => T + 1 ≤ b ∧ ¬ blk aK b) W2 3 a2 x.length c2 ys2 := Sl.mono ho2.sl (fun b hb h => ⟨by omega, fun h2 => by have := hltK0 b h2; omega⟩) (by decide)); (have hrx2 : RowG (fun b => T + 1 ≤ b ∧ ¬ blk aK b) W2 xm ys2 := RowG.go (chF hb2) (fun b hb h => ⟨fun h => h, by omega, fun h2 => by have := hltK0 b h2; omega⟩) hsl.2); (have hbW2 := bt hbW hb2); clear hsl hor hokW hbW ho2 hb2 hWs htW
            refine hK.out _ _ ?g5rs4 (fun hHeld => ?g5rt4)
            case g5rs4 => (try dsimp only); (first | exact HT2.out | exact r5.cell 2)
            try dsimp only at hHeld
            clear hK K
            try simp only [Act.put, List.setIfInBounds_toArray, List.set_cons_zero, List.set_cons_succ]
            refine Go.Shr.wpAnyF_ready [4] (by kernel_rfl) (by simp) ?_
            refine Go.Shr.AllReadyF.cons 4 (o := { dst := some 68, op := Go.Op.buildSlice 46 1 #[(0, Go.Operand.tmp 67)], type := 46, pos := "project.go:92", after := #[{ on := 3, ground := Go.Ground.data }], guard := none }) rfl (fun K hK => ?g5ro5) ?g5rm5
            case g5rm5 => exact Go.Shr.AllReadyF.nil
            go_simp; refine gen_w (fun W3 hW3 => ?_); (have hb3 : Below W2.heap.size W2 W3 := by rw [hW3]; exact ba (b0 W2) _); (have rn := Rw.ren hW3 (Rw.new W2 #[.slice a2 x.length c2] 60)); (replace r5 := r5.below hb3); (have hok3 := hok2.chg (chF hb3) (fun b _ h => h)); (have hsx3 := Sl.go (ok' := fun b => T + 1 ≤ b ∧ ¬ blk aK b) (chF hb3) (fun b hb h => ⟨fun h => h, h⟩) hsx2 (by decide)); (have hrx3 := RowG.go (ok' := fun b => T + 1 ≤ b ∧ ¬ blk aK b) (chF hb3) (fun b hb h => ⟨fun h => h, h⟩) hrx2); (have hbW3 := bt hbW2 hb3); clear hW3 hsx2 hrx2 hok2 hbW2 hb3
            refine hK.out _ _ ?g5rs5 (fun hHeld => ?g5rt5)
            case g5rs5 => (try dsimp only); (first | exact HT2.out | exact r5.cell 2)
            try dsimp only at hHeld
            clear hK K
            try simp only [Act.put, List.setIfInBounds_toArray, List.set_cons_zero, List.set_cons_succ]
            refine Go.Shr.wpAnyF_ready [5] (by kernel_rfl) (by simp) ?_
            refine Go.Shr.AllReadyF.cons 5 (o := { dst := some 69, op := Go.Op.call { callee := Go.Callee.builtin Go.Builtin.append, args := #[Go.Operand.tmp 65, Go.Operand.tmp 68], argTypes := #[46, 46] }, type := 46, pos := "project.go:92", after := #[{ on := 1, ground := Go.Ground.data }, { on := 4, ground := Go.Ground.data }, { on := 3, ground := Go.Ground.chain }], guard := none }) rfl (fun K hK => ?g5ro6) ?g5rm6
            case g5rm6 => exact Go.Shr.AllReadyF.nil
            (refine step_append (B := T + 1) rfl _ _ _ _ rfl ik (.slice none 0 0) 24 Try.underlying46 hik hz0k hz1k hz2k rfl rfl hok3.own _ rfl 1 _ (src_rw (P := Try.prog) (tx := 46) Try.underlying46 rn 1 1 rfl (by intro u hu; simp at hu; subst hu; rfl)) (by simp only [maxLen]; omega) (by omega) (by have := r5.lt; omega) ?_; intro a6 cap6 W6 ho6 hc6 hn6); (have hok6 := OKid.push hok3 HGLX.out hsx3 hrx3 ho6 hc6 hn6); (replace r5 := r5.chg hc6 (fun h => by have := h.2.1; omega)); (have hbW6 : Below wy.heap.size wy W3 := hbW3); (have hc6' := hc6); clear hok3 hsx3 hrx3 ho6 hc6 hn6 rn hbW3
            refine hK.out _ _ ?g5rs6 (fun hHeld => ?g5rt6)
            case g5rs6 => (try dsimp only); (first | exact HT2.out | exact r5.cell 2)
            try dsimp only at hHeld
            clear hK K
            try simp only [Act.put, List.setIfInBounds_toArray, List.set_cons_zero, List.set_cons_succ]
            refine Go.Shr.wpAnyF_take 6 (oi := { dst := some 70, op := Go.Op.fieldAddr 48 (Go.Operand.tmp 7) 2, type := 0, pos := "project.go:92", after := #[{ on := 0, ground := Go.Ground.phase }, { on := 1, ground := Go.Ground.phase }, { on := 2, ground := Go.Ground.phase }, { on := 3, ground := Go.Ground.phase }, { on := 4, ground := Go.Ground.phase }, { on := 5, ground := Go.Ground.phase }], guard := none }) (v := ?g5rv7) rfl (by kernel_rfl) (fun _ _ _ h => h) (by assumption) (by rfl) ?g5ry7 ?g5rr7
            case g5ry7 => intro w hSw; have s1 := hSw; go_simp; try with_reducible rfl
            try simp only [Act.put, List.setIfInBounds_toArray, List.set_cons_zero, List.set_cons_succ]
            refine Go.Shr.wpAnyF_ready [7] (by kernel_rfl) (by simp) ?_
            refine Go.Shr.AllReadyF.last 7 (o := { dst := none, op := Go.Op.store 46 (Go.Operand.tmp 70) (Go.Operand.tmp 69), type := 0, pos := "project.go:92", after := #[{ on := 6, ground := Go.Ground.data }, { on := 5, ground := Go.Ground.data }, { on := 5, ground := Go.Ground.chain }, { on := 0, ground := Go.Ground.phase }, { on := 1, ground := Go.Ground.phase }, { on := 2, ground := Go.Ground.phase }, { on := 3, ground := Go.Ground.phase }, { on := 4, ground := Go.Ground.phase }, { on := 5, ground := Go.Ground.phase }], guard := none }) rfl (by kernel_rfl) (fun K hK => ?g5ro8) ?g5rm8
            case g5rm8 => exact Go.Shr.AllReadyF.nil
            (have qc : W6.cell? ⟨T, 2, none⟩ = some (.slice aK kd.length cK) := r5.cell 2); (have qf := r5.frozen); (have ql := r5.lt); go_simp; clear qc qf ql
            refine hK.out _ _ ?_
            clear hK K
            try simp only [Act.put, List.setIfInBounds_toArray, List.set_cons_zero, List.set_cons_succ]
            refine Go.Shr.wpAnyF_done (by kernel_rfl) ?_
            have hch : Chg (fun b => b = T) W6 (W6.setCell ⟨T, 2, none⟩ (.slice a6 (kd.length + 1) cap6)) := (Chg.refl (fun b => b = T) W6).setCell (p := ⟨T, 2, none⟩) (.inr rfl) _
            have hW6 : Below w.heap.size w W6 := Chg.bt (bt HBx.out hbW6) hc6' (fun b hb h => by have := h.2.1; omega)
            have HB7 := Lib.hid (Chg.bt hW6 hch (fun b hb h => by have h' : b = T := h; omega))
            have HOK7 := Lib.hid (hok6.chg hch (fun b hb h => by have h' : b = T := h; omega))
            have HT7 := Lib.hid (r5.set 2 (.slice a6 (kd.length + 1) cap6))
            have HB7' := Lib.hid (((HRBx.out.below hbW6).chg hc6' (fun h => by have := h.2.1; omega)).other (p := ⟨T, 2, none⟩) (by show w.heap.size + 1 ≠ T; omega) (.slice a6 (kd.length + 1) cap6))
            have HA7' := Lib.hid (((HRAx.out.below hbW6).chg hc6' (fun h => by have := h.2.1; omega)).other (p := ⟨T, 2, none⟩) (by show w.heap.size ≠ T; omega) (.slice a6 (kd.length + 1) cap6))
            clear hok6 hbW6 hc6' r5 hch hW6
            generalize (W6.setCell ⟨T, 2, none⟩ (.slice a6 (kd.length + 1) cap6)) = W7 at *
            go_wp2_with fail
            go_roundw
            case rel =>
              have hXX := HX.out
              rw [← HLS.out] at hXX
              have hle : kd.length + 1 = (keptK f (i + 1) (done ++ [s]) (t.kids.take (done ++ [s]).length)).length := by rw [hXX, List.length_append, List.length_singleton]
              refine ⟨done ++ [s], q, a6, cap6, xs ++ [.slice a2 x.length c2], by rw [HLS.out]; go_num, HNX, ?_, ?_, HB7, HB7', HA7'⟩
              · rw [← hle]; exact HT7
              · rw [← hle, hXX]; exact HOK7
            case measure => simp [intOf]; omega
    · obtain rfl : todo = [] := by
        cases todo with
        | nil => rfl
        | cons s q => have := congrArg List.length HD.out; simp at this; omega
      have hd : ks = done := by rw [HD.out]; simp
      subst hd
      have hkt : t.kids.take ks.length = t.kids := List.take_of_length_le (by rw [HKL.out]; exact Nat.le_refl _)
      rw [hkt] at RC HOKD
      have HE : Hid (keptT f i (.mk nm rp kd ks) t = .mk t.n t.s (keptK f (i + 1) ks t.kids)) := Lib.hid (by simp only [keptT])
      have hkl3 : (keptK f (i + 1) ks t.kids).length ≤ 1000 := Nat.le_trans (keptK_len_le _ _ _) hkl
      generalize keptK f (i + 1) ks t.kids = kq at *
      have HOS := Lib.hid HOKD.out.sl
      have HONE := Lib.hid (KidG.one' HOS.out.2)
      have t2 : wr.cell? ⟨T, 2, none⟩ = some (.slice aK kq.length cK) := RC.out.cell 2
      clear hlt hkt
      go_wp2_with fail
      refine (clone_ts _ aK kq.length cK xs wr HOS.out.1 HONE.out (by omega)).mono ?_
      rintro en w2 ⟨a7, c7, rfl, ho7, hb7⟩
      have rT2 := RC.out.below hb7
      have HO7 := Lib.hid ho7
      have HKG := Lib.hid (KidG.go (ok' := fun b => T + 1 ≤ b) (chF hb7) (fun k hk h => ⟨fun h => h, h⟩) HOS.out.2)
      have HRB2 := Lib.hid (RB.out.below hb7)
      have HC2 := Lib.hid (bt HB.out hb7)
      have hsz7 := hb7.size
      have y2 : w2.cell? ⟨T, 2, none⟩ = some (.slice aK kq.length cK) := rT2.cell 2
      have yf := rT2.frozen
      have yl := rT2.lt
      have HTT2 := Lib.hid rT2
      clear ho7 hb7 rT2 t2
      go_upto_region 15 with fail
      have hch : Chg (fun b => b = T) w2 (w2.setCell ⟨T, 2, none⟩ (.slice a7 kq.length c7)) := (Chg.refl (fun b => b = T) w2).setCell (p := ⟨T, 2, none⟩) (.inr rfl) _
      have rT3 := HTT2.out.set 2 (.slice a7 kq.length c7)
      have rO3 := HRB2.out.other (p := ⟨T, 2, none⟩) (by show w.heap.size + 1 ≠ T; omega) (.slice a7 kq.length c7)
      have HC3 := Lib.hid (Chg.bt HC2.out hch (fun i hi h => by have h' : i = T := h; omega))
      have HKG3 := Lib.hid (KidG.go (ok' := fun b => T + 1 ≤ b) hch (fun k hk h => ⟨by omega, h⟩) HKG.out)
      have HS3 := Lib.hid (Sl.go (ok' := fun b => T + 1 ≤ b) hch (fun k hk h => ⟨by have h1 := h.1; omega, by have h1 := h.1; omega⟩) HO7.out.sl (by decide))
      clear y2 yf hch
      generalize (w2.setCell ⟨T, 2, none⟩ (.slice a7 kq.length c7)) = w3 at *
      have z0 : w3.cell? ⟨T, 0, none⟩ = some (.int .i64 t.n) := rT3.cell 0
      have z1 : w3.cell? ⟨T, 1, none⟩ = some (.string t.s) := rT3.cell 1
      have z2 : w3.cell? ⟨T, 2, none⟩ = some (.slice a7 kq.length c7) := rT3.cell 2
      have y0 : w3.cell? ⟨w.heap.size + 1, 0, none⟩ = some (.int .i64 0) := rO3.cell 0
      have y1 : w3.cell? ⟨w.heap.size + 1, 1, none⟩ = some (.string ⟨#[]⟩) := rO3.cell 1
      have y2 : w3.cell? ⟨w.heap.size + 1, 2, none⟩ = some (.slice none 0 0) := rO3.cell 2
      have yf := rO3.frozen
      have yl3 := rO3.lt
      go_wp2_with fail
      clear z0 z1 z2 y0 y1 y2 yf
      have hq := rO3.set3 (u0 := .int .i64 t.n) (u1 := .string t.s) (u2 := .slice a7 kq.length c7)
      have z0 := hq.cell 0; have z1 := hq.cell 1; have z2 := hq.cell 2
      refine bodyPost_ret (v := .agg #[.int .i64 t.n, .string t.s, .slice a7 kq.length c7]) (by simp [results, Try.results38, go_sem, z0, z1, z2]) rfl ?_
      have hc4 : Chg (fun b => b = w.heap.size + 1) w3 (((w3.setCell ⟨w.heap.size + 1, 0, none⟩ (.int .i64 t.n)).setCell ⟨w.heap.size + 1, 1, none⟩ (.string t.s)).setCell ⟨w.heap.size + 1, 2, none⟩ (.slice a7 kq.length c7)) := (((Chg.refl (fun b => b = w.heap.size + 1) w3).setCell (p := ⟨w.heap.size + 1, 0, none⟩) (.inr rfl) _).setCell (p := ⟨w.heap.size + 1, 1, none⟩) (.inr rfl) _).setCell (p := ⟨w.heap.size + 1, 2, none⟩) (.inr rfl) _
      rw [HE.out]
      refine ⟨a7, kq.length, c7, rfl, ?_, Chg.bt HC3.out hc4 (fun b hb h => by have h' : b = w.heap.size + 1 := h; omega)⟩
      exact TrG.mk' HTS.out (Sl.go hc4 (fun k hk h => ⟨by omega, by omega⟩) HS3.out (by decide)) (KidG.go hc4 (fun k hk h => ⟨by omega, by omega⟩) HKG3.out)
theorem keep_all (l : List Fl) (f : Nat → Bool) (hll : l.length ≤ 1000) : ∀ (N : Nat) (s : Sh), s.size ≤ N → N ≤ 1000 → KeepOk l f s
  | 0, .mk _ _ _ _, h, _ => by simp [Sh.size] at h
  | N + 1, .mk nm rp kd ks, h, hN => by
    simp only [Sh.size] at h
    have hkl := kids_sizes ks
    refine keep_step l f hll nm rp kd ks (by omega) (fun s hs => keep_all l f hll N s ?_ (by omega))
    have : ∀ (q : List Sh), s ∈ q → s.size ≤ shSizes q := by
      intro q
      induction q with
      | nil => intro h; cases h
      | cons x q ih =>
        intro h
        rcases List.mem_cons.1 h with rfl | h
        · simp [shSizes]
        · have := ih h; simp only [shSizes]; omega
    have := this ks hs
    omega
end Go.Proofs.Ytgpffcgkfgiodaa
