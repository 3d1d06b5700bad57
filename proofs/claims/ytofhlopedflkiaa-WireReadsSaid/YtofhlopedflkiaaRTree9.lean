/-
  The walk of the document's reader of trees: leaves. The walk of the document's reader of trees: groups. The walk of the document's Parse of wire.
-/
import Derived.Test.YtofhlopedflkiaaRRead9
import Derived.Test.YtofhlopedflkiaaParse9
set_option linter.unusedSimpArgs false
namespace Go.Proofs.Ytofhlopedflkiaa
open Go.RowKit Go.Shr
/-- What the document's get yields. -/
def TreeRdR (R : Nat) (sa : Option Addr) (scap : Nat) (pa : Option Addr) (pcap : Nat) (l : List Fl) (s : Sh) : Prop := ∀ (i : Nat) (bs : List UInt8) (e : Nat) (w : World), Ix l (KF l) i s → Sl (fun b => b < R) w 4 sa l.length scap (fls l) → Sl (fun b => b < R) w 1 pa l.length pcap (ints (par l)) → RdR R w bs e →
  Calls Try.prog 37 #[.pointer (some ⟨R, 0, none⟩), .slice sa l.length scap, .slice pa l.length pcap, .int .i64 i] w fun en w' => ∃ t a cap bs' e', en = .returned (.agg #[.int .i64 t.n, .string t.s, .slice a t.kids.length cap]) ∧ TrG (fun b => w.heap.size ≤ b) w' t [.int .i64 t.n, .string t.s, .slice a t.kids.length cap] ∧ Res e (decT s bs) t bs' e' ∧ RdR R w' bs' e' ∧ Chg (fun k => k = R) w w'
theorem rleaf_fin {R : Nat} {w w1 w2 w3 : World} {bs' : List UInt8} {e' : Nat} (h1 : Below w.heap.size w w1) (hz : w1.heap.size = w.heap.size + 1 + 1) (hR : R < w.heap.size) (hc : Chg (fun k => k = R) w1 w2) (hr : RdR R w2 bs' e') (h3 : Chg (fun k => k = w.heap.size ∨ k = w.heap.size + 1) w2 w3) :
    RdR R w3 bs' e' ∧ Chg (fun k => k = R) w w3 := by
  have hs := hc.size
  refine ⟨hr.low (h3.below (by omega) (fun i hi h => by omega)), ?_⟩
  exact (((Chg.ofBelow h1).mono (S' := fun k => k = R) (fun i hi h => by omega)).trans hc (fun _ _ h => h)).trans h3 (fun i hi h => by omega)
set_option maxHeartbeats 2000000 in
set_option maxRecDepth 100000 in
theorem rleaf_rd (R : Nat) (sa : Option Addr) (scap : Nat) (pa : Option Addr) (pcap : Nat) (l : List Fl) (nm : ByteArray) (rp kd : Int) (ks : List Sh) (hkd : kd = 1 ∨ kd = 2 ∨ kd = 3 ∨ kd = 4) : TreeRdR R sa scap pa pcap l (.mk nm rp kd ks) := by
  intro i bs e w hix hsl hpl hrd
  have hRw := hrd.lt
  simp only [Ix] at hix
  obtain ⟨hil, hie⟩ := List.getElem?_eq_some_iff.1 hix.1
  obtain ⟨_, _, f2, _⟩ := fls_get l i hil
  rw [hie] at f2
  dsimp only at f2
  obtain ⟨sb, soff, rfl, hsb, hsc⟩ := hsl.pos (by omega)
  replace f2 := hsc _ _ f2
  rw [← Nat.add_assoc] at f2
  obtain ⟨wx, hwx⟩ : ∃ wx, wx = (w.alloc (.cells #[.int .i64 0, .string ⟨#[]⟩, .slice none 0 0] 35)).alloc (.cells #[.int .i64 0, .string ⟨#[]⟩, .slice none 0 0] 35) := ⟨_, rfl⟩
  have hbx : Below w.heap.size w wx := by rw [hwx]; exact ba (ba (b0 w) _) _
  have hzx : wx.heap.size = w.heap.size + 1 + 1 := by rw [hwx]; simp
  have rO : Rw wx w.heap.size #[.int .i64 0, .string ⟨#[]⟩, .slice none 0 0] 35 := by rw [hwx]; exact (Rw.new w _ _).alloc _
  have rT : Rw wx (w.heap.size + 1) #[.int .i64 0, .string ⟨#[]⟩, .slice none 0 0] 35 := by rw [hwx]; exact Rw.new' (by simp)
  replace f2 := cb hbx f2
  have HRX := Lib.hid (hrd.below hbx); have HBX := Lib.hid hbx; have HZX := Lib.hid hzx; have HRO := Lib.hid rO; have HRT := Lib.hid rT
  have hi0' : (0 : Int) ≤ (i : Int) := by omega
  have hi1' : (i : Int) < (l.length : Int) := by omega
  clear hsc hix hrd hbx hzx rT rO hie
  go_enter Try.func37, Try.ntmps37
  go_upto_region 2 with fail
  rw [← hwx]; clear hwx
  obtain ⟨T, hT⟩ : ∃ T, T = w.heap.size + 1 := ⟨_, rfl⟩
  rw [← hT] at HRT ⊢
  have HTE := Lib.hid hT
  clear hT
  rcases hkd with rfl | rfl | rfl | rfl
  · have HE : Hid (decT (.mk nm rp 1 ks) bs = rdMap (fun (v : Nat) => .mk (v : Int) ⟨#[]⟩ []) (rdBit bs)) := Lib.hid (by rw [decT, if_pos rfl])
    go_wp2_with fail
    refine (rbit_v R bs e wx HRX.out).mono ?_
    rintro en w2 ⟨v, bs2, e2, rfl, hv1, hres, hr2, hc2⟩
    have HR2 := Lib.hid hr2; have HRES := Lib.hid hres; have HC2 := Lib.hid hc2
    clear hr2 hres hc2
    have rT2 := HRT.out.chg HC2.out (by have := HTE.out; omega)
    have rO2 := HRO.out.chg HC2.out (by omega)
    have HT2 := Lib.hid rT2; have HO2 := Lib.hid rO2
    have t0 : w2.cell? ⟨T, 0, none⟩ = some (.int .i64 0) := rT2.cell 0
    have t1 : w2.cell? ⟨T, 1, none⟩ = some (.string ⟨#[]⟩) := rT2.cell 1
    have t2 : w2.cell? ⟨T, 2, none⟩ = some (.slice none 0 0) := rT2.cell 2
    have tf := rT2.frozen
    have tl := rT2.lt
    clear rT2 rO2 f2
    go_upto_region 5 with fail
    have hch : Chg (fun b => b = w.heap.size ∨ b = w.heap.size + 1) w2 (w2.setCell ⟨T, 0, none⟩ (.int .i64 (v : Int))) := (Chg.refl (fun b => b = w.heap.size ∨ b = w.heap.size + 1) w2).setCell (p := ⟨T, 0, none⟩) (.inr (.inr HTE.out)) _
    have rT3 := HT2.out.set 0 (.int .i64 (v : Int))
    have rO3 := HO2.out.other (p := ⟨T, 0, none⟩) (by show w.heap.size ≠ T; have := HTE.out; omega) (.int .i64 (v : Int))
    have HCH := Lib.hid hch
    clear t0 t1 t2 tf tl hch
    generalize (w2.setCell ⟨T, 0, none⟩ (.int .i64 (v : Int))) = w3 at *
    have z0 : w3.cell? ⟨T, 0, none⟩ = some (.int .i64 (v : Int)) := rT3.cell 0
    have z1 : w3.cell? ⟨T, 1, none⟩ = some (.string ⟨#[]⟩) := rT3.cell 1
    have z2 : w3.cell? ⟨T, 2, none⟩ = some (.slice none 0 0) := rT3.cell 2
    have y0 : w3.cell? ⟨w.heap.size, 0, none⟩ = some (.int .i64 0) := rO3.cell 0
    have y1 : w3.cell? ⟨w.heap.size, 1, none⟩ = some (.string ⟨#[]⟩) := rO3.cell 1
    have y2 : w3.cell? ⟨w.heap.size, 2, none⟩ = some (.slice none 0 0) := rO3.cell 2
    have yf := rO3.frozen
    have yl := rO3.lt
    go_wp2_with fail
    clear z0 z1 z2 y0 y1 y2 yf
    have hq := rO3.set3 (u0 := .int .i64 (v : Int)) (u1 := .string ⟨#[]⟩) (u2 := .slice none 0 0)
    have z0 := hq.cell 0; have z1 := hq.cell 1; have z2 := hq.cell 2
    have hc3 := HCH.out.trans ((((Chg.refl (fun b => b = w.heap.size ∨ b = w.heap.size + 1) w3).setCell (p := ⟨w.heap.size, 0, none⟩) (.inr (.inl rfl)) (.int .i64 (v : Int))).setCell (p := ⟨w.heap.size, 1, none⟩) (.inr (.inl rfl)) (.string ⟨#[]⟩)).setCell (p := ⟨w.heap.size, 2, none⟩) (.inr (.inl rfl)) (.slice none 0 0)) (fun _ _ h => h)
    have hf := rleaf_fin HBX.out HZX.out hRw HC2.out HR2.out hc3
    refine bodyPost_ret (v := .agg #[.int .i64 (v : Int), .string ⟨#[]⟩, .slice none 0 0]) (by simp [results, Try.results37, go_sem, z0, z1, z2]) rfl ?_
    exact ⟨.mk (v : Int) ⟨#[]⟩ [], none, 0, _, _, rfl, TrG.leaf (by decide), by rw [HE.out]; exact HRES.out.map (fun (v : Nat) => Tr.mk (v : Int) ⟨#[]⟩ []), hf.1, hf.2⟩
  · have HE : Hid (decT (.mk nm rp 2 ks) bs = rdMap (fun v => .mk (i32 v) ⟨#[]⟩ []) (rdFix 4 bs)) := Lib.hid (by rw [decT, if_neg (by decide), if_pos rfl])
    have hvl : ofLe (takeS 4 bs e).1 < 4294967296 := by
      have h1 := ofLe_lt (takeS 4 bs e).1
      have h2 : (takeS 4 bs e).1.length ≤ 4 := by have := congrArg List.length (takeB_S 4 (by decide) bs e); have := takeB_len 4 (takeS 4 bs e).1; omega
      have h3 : 256 ^ (takeS 4 bs e).1.length ≤ 256 ^ 4 := Nat.pow_le_pow_right (by decide) h2
      omega
    go_wp2_with fail
    refine (rget_v R bs e 4 wx HRX.out (by decide) (by decide)).mono ?_
    rintro en w2 ⟨rfl, hr2, hc2⟩
    have hres := res_fix 4 bs e
    have hwi := wrap_i32v (ofLe (takeS 4 bs e).1)
    generalize ofLe (takeS 4 bs e).1 = v at *
    generalize (takeS 4 bs e).2.1 = bs2 at *
    generalize (takeS 4 bs e).2.2 = e2 at *
    have HR2 := Lib.hid hr2; have HRES := Lib.hid hres; have HC2 := Lib.hid hc2
    have hw1 := hwi.1; have hw2 := hwi.2
    rw [hw2] at hw1
    have hwu : IntKind.u32.wrap (v : Int) = (v : Int) := by
      have : IntKind.u32.wrap (v : Int) = (v : Int) % 4294967296 := by simp [IntKind.wrap, IntKind.bits, IntKind.signed]
      rw [this]; omega
    clear hr2 hres hc2 hwi
    have rT2 := HRT.out.chg HC2.out (by have := HTE.out; omega)
    have rO2 := HRO.out.chg HC2.out (by omega)
    have HT2 := Lib.hid rT2; have HO2 := Lib.hid rO2
    have t0 : w2.cell? ⟨T, 0, none⟩ = some (.int .i64 0) := rT2.cell 0
    have t1 : w2.cell? ⟨T, 1, none⟩ = some (.string ⟨#[]⟩) := rT2.cell 1
    have t2 : w2.cell? ⟨T, 2, none⟩ = some (.slice none 0 0) := rT2.cell 2
    have tf := rT2.frozen
    have tl := rT2.lt
    clear rT2 rO2 f2
    go_upto_region 8 with fail
    have hch : Chg (fun b => b = w.heap.size ∨ b = w.heap.size + 1) w2 (w2.setCell ⟨T, 0, none⟩ (.int .i64 (i32 v))) := (Chg.refl (fun b => b = w.heap.size ∨ b = w.heap.size + 1) w2).setCell (p := ⟨T, 0, none⟩) (.inr (.inr HTE.out)) _
    have rT3 := HT2.out.set 0 (.int .i64 (i32 v))
    have rO3 := HO2.out.other (p := ⟨T, 0, none⟩) (by show w.heap.size ≠ T; have := HTE.out; omega) (.int .i64 (i32 v))
    have HCH := Lib.hid hch
    clear t0 t1 t2 tf tl hch
    generalize (w2.setCell ⟨T, 0, none⟩ (.int .i64 (i32 v))) = w3 at *
    have z0 : w3.cell? ⟨T, 0, none⟩ = some (.int .i64 (i32 v)) := rT3.cell 0
    have z1 : w3.cell? ⟨T, 1, none⟩ = some (.string ⟨#[]⟩) := rT3.cell 1
    have z2 : w3.cell? ⟨T, 2, none⟩ = some (.slice none 0 0) := rT3.cell 2
    have y0 : w3.cell? ⟨w.heap.size, 0, none⟩ = some (.int .i64 0) := rO3.cell 0
    have y1 : w3.cell? ⟨w.heap.size, 1, none⟩ = some (.string ⟨#[]⟩) := rO3.cell 1
    have y2 : w3.cell? ⟨w.heap.size, 2, none⟩ = some (.slice none 0 0) := rO3.cell 2
    have yf := rO3.frozen
    have yl := rO3.lt
    go_wp2_with fail
    clear z0 z1 z2 y0 y1 y2 yf
    have hq := rO3.set3 (u0 := .int .i64 (i32 v)) (u1 := .string ⟨#[]⟩) (u2 := .slice none 0 0)
    have z0 := hq.cell 0; have z1 := hq.cell 1; have z2 := hq.cell 2
    have hc3 := HCH.out.trans ((((Chg.refl (fun b => b = w.heap.size ∨ b = w.heap.size + 1) w3).setCell (p := ⟨w.heap.size, 0, none⟩) (.inr (.inl rfl)) (.int .i64 (i32 v))).setCell (p := ⟨w.heap.size, 1, none⟩) (.inr (.inl rfl)) (.string ⟨#[]⟩)).setCell (p := ⟨w.heap.size, 2, none⟩) (.inr (.inl rfl)) (.slice none 0 0)) (fun _ _ h => h)
    have hf := rleaf_fin HBX.out HZX.out hRw HC2.out HR2.out hc3
    refine bodyPost_ret (v := .agg #[.int .i64 (i32 v), .string ⟨#[]⟩, .slice none 0 0]) (by simp [results, Try.results37, go_sem, z0, z1, z2]) rfl ?_
    exact ⟨.mk (i32 v) ⟨#[]⟩ [], none, 0, _, _, rfl, TrG.leaf (by decide), by rw [HE.out]; exact HRES.out.map (fun v => Tr.mk (i32 v) ⟨#[]⟩ []), hf.1, hf.2⟩
  · have HE : Hid (decT (.mk nm rp 3 ks) bs = rdMap (fun v => .mk (i64 v) ⟨#[]⟩ []) (rdFix 8 bs)) := Lib.hid (by rw [decT, if_neg (by decide), if_neg (by decide), if_pos rfl])
    go_wp2_with fail
    refine (rget_v R bs e 8 wx HRX.out (by decide) (by decide)).mono ?_
    rintro en w2 ⟨rfl, hr2, hc2⟩
    have hres := res_fix 8 bs e
    have hw1 := wrap_i64v (ofLe (takeS 8 bs e).1)
    generalize ofLe (takeS 8 bs e).1 = v at *
    generalize (takeS 8 bs e).2.1 = bs2 at *
    generalize (takeS 8 bs e).2.2 = e2 at *
    have HR2 := Lib.hid hr2; have HRES := Lib.hid hres; have HC2 := Lib.hid hc2
    clear hr2 hres hc2
    have rT2 := HRT.out.chg HC2.out (by have := HTE.out; omega)
    have rO2 := HRO.out.chg HC2.out (by omega)
    have HT2 := Lib.hid rT2; have HO2 := Lib.hid rO2
    have t0 : w2.cell? ⟨T, 0, none⟩ = some (.int .i64 0) := rT2.cell 0
    have t1 : w2.cell? ⟨T, 1, none⟩ = some (.string ⟨#[]⟩) := rT2.cell 1
    have t2 : w2.cell? ⟨T, 2, none⟩ = some (.slice none 0 0) := rT2.cell 2
    have tf := rT2.frozen
    have tl := rT2.lt
    clear rT2 rO2 f2
    go_upto_region 11 with fail
    have hch : Chg (fun b => b = w.heap.size ∨ b = w.heap.size + 1) w2 (w2.setCell ⟨T, 0, none⟩ (.int .i64 (i64 v))) := (Chg.refl (fun b => b = w.heap.size ∨ b = w.heap.size + 1) w2).setCell (p := ⟨T, 0, none⟩) (.inr (.inr HTE.out)) _
    have rT3 := HT2.out.set 0 (.int .i64 (i64 v))
    have rO3 := HO2.out.other (p := ⟨T, 0, none⟩) (by show w.heap.size ≠ T; have := HTE.out; omega) (.int .i64 (i64 v))
    have HCH := Lib.hid hch
    clear t0 t1 t2 tf tl hch
    generalize (w2.setCell ⟨T, 0, none⟩ (.int .i64 (i64 v))) = w3 at *
    have z0 : w3.cell? ⟨T, 0, none⟩ = some (.int .i64 (i64 v)) := rT3.cell 0
    have z1 : w3.cell? ⟨T, 1, none⟩ = some (.string ⟨#[]⟩) := rT3.cell 1
    have z2 : w3.cell? ⟨T, 2, none⟩ = some (.slice none 0 0) := rT3.cell 2
    have y0 : w3.cell? ⟨w.heap.size, 0, none⟩ = some (.int .i64 0) := rO3.cell 0
    have y1 : w3.cell? ⟨w.heap.size, 1, none⟩ = some (.string ⟨#[]⟩) := rO3.cell 1
    have y2 : w3.cell? ⟨w.heap.size, 2, none⟩ = some (.slice none 0 0) := rO3.cell 2
    have yf := rO3.frozen
    have yl := rO3.lt
    go_wp2_with fail
    clear z0 z1 z2 y0 y1 y2 yf
    have hq := rO3.set3 (u0 := .int .i64 (i64 v)) (u1 := .string ⟨#[]⟩) (u2 := .slice none 0 0)
    have z0 := hq.cell 0; have z1 := hq.cell 1; have z2 := hq.cell 2
    have hc3 := HCH.out.trans ((((Chg.refl (fun b => b = w.heap.size ∨ b = w.heap.size + 1) w3).setCell (p := ⟨w.heap.size, 0, none⟩) (.inr (.inl rfl)) (.int .i64 (i64 v))).setCell (p := ⟨w.heap.size, 1, none⟩) (.inr (.inl rfl)) (.string ⟨#[]⟩)).setCell (p := ⟨w.heap.size, 2, none⟩) (.inr (.inl rfl)) (.slice none 0 0)) (fun _ _ h => h)
    have hf := rleaf_fin HBX.out HZX.out hRw HC2.out HR2.out hc3
    refine bodyPost_ret (v := .agg #[.int .i64 (i64 v), .string ⟨#[]⟩, .slice none 0 0]) (by simp [results, Try.results37, go_sem, z0, z1, z2]) rfl ?_
    exact ⟨.mk (i64 v) ⟨#[]⟩ [], none, 0, _, _, rfl, TrG.leaf (by decide), by rw [HE.out]; exact HRES.out.map (fun v => Tr.mk (i64 v) ⟨#[]⟩ []), hf.1, hf.2⟩
  · have HE : Hid (decT (.mk nm rp 4 ks) bs = rdMap (fun s => .mk 0 s []) (rdStr bs)) := Lib.hid (by rw [decT, if_neg (by decide), if_neg (by decide), if_neg (by decide), if_pos rfl])
    go_wp2_with fail
    refine (rnum_v R bs e 100 5 wx HRX.out (by decide) (by decide)).mono ?_
    rintro en w1 ⟨n, bs1, e1, rfl, hn1, hres1, hr1, hc1⟩
    have HR1 := Lib.hid hr1; have HRES1 := Lib.hid hres1; have HC1 := Lib.hid hc1
    clear hr1 hres1 hc1
    go_wp2_with fail
    refine (rtake_v R bs1 e1 n w1 HR1.out (by omega)).mono ?_
    rintro en w2 ⟨a2, c2, rfl, hs2, hr2, hc2⟩
    have hres := res_str n bs1 e1
    have hdl := takeS_len n bs1 e1
    have hsm := HR1.out.small
    generalize (takeS n bs1 e1).1 = ds at *
    generalize (takeS n bs1 e1).2.1 = bs2 at *
    generalize (takeS n bs1 e1).2.2 = e2 at *
    have cv := hs2.toString (P := Try.prog) Try.underlying30 Try.underlying5 Try.underlying9
    have HR2 := Lib.hid hr2; have HRES := Lib.hid hres; have HC2 := Lib.hid (HC1.out.trans hc2 (fun _ _ h => h))
    have hds : (⟨ds.toArray⟩ : ByteArray).size ≤ maxLen := by
      have : (⟨ds.toArray⟩ : ByteArray).size = ds.length := by simp [ByteArray.size]
      rw [this]; unfold maxLen; omega
    have HDS := Lib.hid hds
    clear hr2 hres hc2 hs2 hds
    have rT2 := HRT.out.chg HC2.out (by have := HTE.out; omega)
    have rO2 := HRO.out.chg HC2.out (by omega)
    have HT2 := Lib.hid rT2; have HO2 := Lib.hid rO2
    have t0 : w2.cell? ⟨T, 0, none⟩ = some (.int .i64 0) := rT2.cell 0
    have t1 : w2.cell? ⟨T, 1, none⟩ = some (.string ⟨#[]⟩) := rT2.cell 1
    have t2 : w2.cell? ⟨T, 2, none⟩ = some (.slice none 0 0) := rT2.cell 2
    have tf := rT2.frozen
    have tl := rT2.lt
    clear rT2 rO2 f2
    go_upto_region 14 with fail
    have hch : Chg (fun b => b = w.heap.size ∨ b = w.heap.size + 1) w2 (w2.setCell ⟨T, 1, none⟩ (.string ⟨ds.toArray⟩)) := (Chg.refl (fun b => b = w.heap.size ∨ b = w.heap.size + 1) w2).setCell (p := ⟨T, 1, none⟩) (.inr (.inr HTE.out)) _
    have rT3 := HT2.out.set 1 (.string ⟨ds.toArray⟩)
    have rO3 := HO2.out.other (p := ⟨T, 1, none⟩) (by show w.heap.size ≠ T; have := HTE.out; omega) (.string ⟨ds.toArray⟩)
    have HCH := Lib.hid hch
    clear t0 t1 t2 tf tl hch cv
    generalize (w2.setCell ⟨T, 1, none⟩ (.string ⟨ds.toArray⟩)) = w3 at *
    have z0 : w3.cell? ⟨T, 0, none⟩ = some (.int .i64 0) := rT3.cell 0
    have z1 : w3.cell? ⟨T, 1, none⟩ = some (.string ⟨ds.toArray⟩) := rT3.cell 1
    have z2 : w3.cell? ⟨T, 2, none⟩ = some (.slice none 0 0) := rT3.cell 2
    have y0 : w3.cell? ⟨w.heap.size, 0, none⟩ = some (.int .i64 0) := rO3.cell 0
    have y1 : w3.cell? ⟨w.heap.size, 1, none⟩ = some (.string ⟨#[]⟩) := rO3.cell 1
    have y2 : w3.cell? ⟨w.heap.size, 2, none⟩ = some (.slice none 0 0) := rO3.cell 2
    have yf := rO3.frozen
    have yl := rO3.lt
    go_wp2_with fail
    clear z0 z1 z2 y0 y1 y2 yf
    have hq := rO3.set3 (u0 := .int .i64 0) (u1 := .string ⟨ds.toArray⟩) (u2 := .slice none 0 0)
    have z0 := hq.cell 0; have z1 := hq.cell 1; have z2 := hq.cell 2
    have hc3 := HCH.out.trans ((((Chg.refl (fun b => b = w.heap.size ∨ b = w.heap.size + 1) w3).setCell (p := ⟨w.heap.size, 0, none⟩) (.inr (.inl rfl)) (.int .i64 0)).setCell (p := ⟨w.heap.size, 1, none⟩) (.inr (.inl rfl)) (.string ⟨ds.toArray⟩)).setCell (p := ⟨w.heap.size, 2, none⟩) (.inr (.inl rfl)) (.slice none 0 0)) (fun _ _ h => h)
    have hf := rleaf_fin HBX.out HZX.out hRw HC2.out HR2.out hc3
    refine bodyPost_ret (v := .agg #[.int .i64 0, .string ⟨ds.toArray⟩, .slice none 0 0]) (by simp [results, Try.results37, go_sem, z0, z1, z2]) rfl ?_
    exact ⟨.mk 0 ⟨ds.toArray⟩ [], none, 0, _, _, rfl, TrG.leaf HDS.out, by rw [HE.out, rdStr_eq]; exact (HRES1.out.bind HRES.out).map (fun s => Tr.mk 0 s []), hf.1, hf.2⟩
end Go.Proofs.Ytofhlopedflkiaa
namespace Go.Proofs.Ytofhlopedflkiaa
open Go.RowKit Go.Shr
theorem drop_consS {α : Type} {xs : List α} {d : Nat} {s : α} {q : List α} (h : xs.drop d = s :: q) : d < xs.length ∧ q = xs.drop (d + 1) ∧ s ∈ xs := by
  have hl : d < xs.length := by
    have := congrArg List.length h
    simp at this; omega
  rw [List.drop_eq_getElem_cons hl] at h
  injection h with h1 h2
  exact ⟨hl, h2.symm, h1 ▸ List.getElem_mem hl⟩
theorem res_one (e : Nat) (bs : List UInt8) : Res e (.ok (1, bs) : Rd Nat) 1 bs e := by
  unfold Res
  by_cases he : e = 0
  · rw [if_pos he]; exact ⟨rfl, rfl, he⟩
  · rw [if_neg he]
theorem Way.zero {f : List UInt8 → Rd Tr} {n : Nat} {bs : List UInt8} {e : Nat} {x : List Tr} {bs1 : List UInt8} (h : Way f n bs e x bs1 0) : e = 0 := by
  unfold Way at h
  by_cases he : e = 0
  · exact he
  · rw [if_neg he] at h; omega
set_option maxHeartbeats 4000000 in
set_option maxRecDepth 100000 in
theorem rgrp_rd (R : Nat) (sa : Option Addr) (scap : Nat) (pa : Option Addr) (pcap : Nat) (l : List Fl) (nm : ByteArray) (rp kd : Int) (ks : List Sh) (hk1 : kd ≠ 1) (hk2 : kd ≠ 2) (hk3 : kd ≠ 3) (hk4 : kd ≠ 4) (hll : l.length ≤ 1000) (hT : ∀ s ∈ ks, TreeRdR R sa scap pa pcap l s) : TreeRdR R sa scap pa pcap l (.mk nm rp kd ks) := by
  intro i bs e w hix hsl hpl hrd
  obtain ⟨it, hit, hz0t, hz1t, hz2t⟩ := info_parts info_tr
  obtain ⟨ik, hik, hz0k, hz1k, hz2k⟩ := info_parts info_ts
  have hRw := hrd.lt
  simp only [Ix] at hix
  obtain ⟨hix1, hix2, hix3⟩ := hix
  obtain ⟨hil, hie⟩ := List.getElem?_eq_some_iff.1 hix1
  obtain ⟨_, _, f2, _⟩ := fls_get l i hil
  rw [hie] at f2
  dsimp only at f2
  obtain ⟨sb, soff, rfl, hsb, hsc⟩ := hsl.pos (by omega)
  replace f2 := hsc _ _ f2
  rw [← Nat.add_assoc] at f2
  obtain ⟨wx, hwx⟩ : ∃ wx, wx = (w.alloc (.cells #[.int .i64 0, .string ⟨#[]⟩, .slice none 0 0] 35)).alloc (.cells #[.int .i64 0, .string ⟨#[]⟩, .slice none 0 0] 35) := ⟨_, rfl⟩
  have hbx : Below w.heap.size w wx := by rw [hwx]; exact ba (ba (b0 w) _) _
  have hzx : wx.heap.size = w.heap.size + 1 + 1 := by rw [hwx]; simp
  have rO : Rw wx w.heap.size #[.int .i64 0, .string ⟨#[]⟩, .slice none 0 0] 35 := by rw [hwx]; exact (Rw.new w _ _).alloc _
  have rT : Rw wx (w.heap.size + 1) #[.int .i64 0, .string ⟨#[]⟩, .slice none 0 0] 35 := by rw [hwx]; exact Rw.new' (by simp)
  replace f2 := cb hbx f2
  have HRX := Lib.hid (hrd.below hbx); have HBX := Lib.hid hbx; have HZX := Lib.hid hzx; have HRO := Lib.hid rO; have HRT := Lib.hid rT; have HTT := Lib.hid hT
  have HIX2 := Lib.hid hix2; have HIX3 := Lib.hid hix3; have HSC := Lib.hid hsc; have HSL := Lib.hid hsl; have HPL := Lib.hid hpl
  have hi0' : (0 : Int) ≤ (i : Int) := by omega
  have hi1' : (i : Int) < (l.length : Int) := by omega
  have b1 : (kd == 1) = false := beq_eq_false_iff_ne.2 hk1
  have b2 : (kd == 2) = false := beq_eq_false_iff_ne.2 hk2
  have b3 : (kd == 3) = false := beq_eq_false_iff_ne.2 hk3
  have b4 : (kd == 4) = false := beq_eq_false_iff_ne.2 hk4
  have HE : Hid (decT (.mk nm rp kd ks) bs = rdMap (fun k => .mk 0 ⟨#[]⟩ k) (decK ks bs)) := Lib.hid (by rw [decT, if_neg hk1, if_neg hk2, if_neg hk3, if_neg hk4])
  have hP : (par l).length = l.length := par_length l
  have hPb := fun j hj => par_bd l j hj
  generalize hPd : par l = P at *
  have HPD := Lib.hid hPd
  have HPB := Lib.hid hPb; have HP := Lib.hid hP
  have hR0 : Hid (rest P i (i + 1) = offs (i + 1) ks) := Lib.hid (by
    rw [rest_start (fun j hj => (HPB.out j hj).2), ← kidsOf_kf, ← HPD.out]; exact HIX2.out)
  clear hsc hix1 hix2 hix3 hrd hbx hzx rT rO hie hk1 hk2 hk3 hk4 hT hsl hpl hPd hPb hP
  go_enter Try.func37, Try.ntmps37
  go_upto_region 2 with fail
  rw [← hwx]; clear hwx
  obtain ⟨T, hT⟩ : ∃ T, T = w.heap.size + 1 := ⟨_, rfl⟩
  rw [← hT] at HRT ⊢
  have hTw : w.heap.size < T := by omega
  have HZ : Hid (wx.heap.size = T + 1) := Lib.hid (by rw [HZX.out, hT])
  clear hT HZX
  go_wp2_with fail
  clear b1 b2 b3 b4 f2
  go_loopw [10] (fun iv wr => ∃ (j d o : Nat) (aK : Option Addr) (cK : Nat) (kks : List (List Tr)) (xs : List Value) (bs1 : List UInt8) (e1 : Nat), iv = .int .i64 (j : Int) ∧ j ≤ l.length ∧ d ≤ j ∧ Hid (rest P i j = offs o (ks.drop d)) ∧ Hid (IxL l (KF l) o (ks.drop d)) ∧ Hid (Rw wr T #[.int .i64 0, .string ⟨#[]⟩, .slice aK d cK] 35) ∧ Hid (OKid 28 (T + 1) wr aK d cK kks xs) ∧ Hid (RdR R wr bs1 e1) ∧ Hid (WayK ks bs e d kks bs1 e1) ∧ Hid (d ≤ ks.length) ∧ Hid (Chg (fun k => k = R) w wr) ∧ Hid (Rw wr w.heap.size #[.int .i64 0, .string ⟨#[]⟩, .slice none 0 0] 35)) (fun iv _ => l.length - (intOf iv).toNat)
  case atStart => exact ⟨i + 1, 0, i + 1, none, 0, [], [], bs, e, by go_num, hil, Nat.zero_le _, hR0, HIX3, HRT, Lib.hid (OKid.nil _ _ _), HRX, Lib.hid (WayK.start _ _ _), Lib.hid (Nat.zero_le _), Lib.hid ((Chg.ofBelow HBX.out).mono (fun i hi h => by omega)), HRO⟩
  case round =>
    clear HRT HRX HRO hR0 HIX2 HIX3
    obtain ⟨j, d, o, aK, cK, kks, xs, bs1, e1, rfl, hj, hdj, HRE, HIX, RT, HOK, HRD, HW, HDK, HC, RO⟩ := hrel
    obtain ⟨wo, rfl⟩ : ∃ wo : World, wo = wr := ⟨_, rfl⟩
    have hszr := HC.out.size
    have tl := RT.out.lt
    by_cases hlt : j < l.length
    · have hjP : j < P.length := by rw [HP.out]; exact hlt
      obtain ⟨pb, poff, hpa, hpb, hpc⟩ := HPL.out.pos (by omega)
      have c0 := HC.out.keep (hpc _ _ (ints_get P j hjP)) (by omega)
      have hbd := HPB.out j hjP
      by_cases hp : P[j] = (i : Int)
      · have hry := rest_yes hjP hp
        rw [HRE.out] at hry
        obtain ⟨s, q, hq, hjo, hre2⟩ := offs_cons hry
        have hjo' : j = o := by omega
        subst hjo'
        obtain ⟨hdl, hqe, hmem⟩ := drop_consS hq
        obtain ⟨hix, hixr⟩ := ixL_mem s q HIX.out hq
        obtain ⟨hjl, hrep, _⟩ := hix.at
        have f1 := (fls_get l j hjl).2.1
        rw [hrep] at f1
        have f1w : wo.cell? ⟨sb, soff + (j * 4 + 1), none⟩ = some (.int .i64 s.rep) := HC.out.keep (HSC.out _ _ f1) (by omega)
        rw [← Nat.add_assoc] at f1w
        have HTS := Lib.hid (HTT.out s hmem)
        have HDR : Hid (ks.drop d = s :: ks.drop (d + 1)) := Lib.hid (by rw [hq, hqe])
        subst hqe
        have HIXS := Lib.hid hix; have HIXR := Lib.hid hixr; have HRE2 := Lib.hid hre2
        have HDL : Hid (d + 1 ≤ ks.length) := Lib.hid hdl
        rw [hp] at c0
        subst hpa
        have HPQ : Hid (Sl (fun b => b < R) w 1 (some ⟨pb, poff, none⟩) l.length pcap (ints (par l))) := Lib.hid (by rw [HPD.out]; exact HPL.out)
        have hj0 : (0 : Int) ≤ (j : Int) := by omega
        have hjl' : (j : Int) < (l.length : Int) := by omega
        clear hpc hry hix hixr hre2 f1 hrep hbd hp hjo hq hmem hdl HRE HIX
        go_upto_region 19 with fail
        go_cut [11] from 65 to 65 (fun nv wc => ∃ n : Nat, nv = .int .i64 (n : Int) ∧ Hid (n = 1) ∧ wo = wc)
        case first =>
          go_wp2_with fail
          go_meet
          case rel => exact ⟨1, rfl, Lib.hid rfl, rfl⟩
        case rest =>
        obtain ⟨n1, rfl, hn1, rfl⟩ := hcut
        have HCN : Hid (Chg (fun k => k = R) wo wo) := Lib.hid (Chg.refl _ _)
        by_cases h1 : s.rep = 1
        case' pos =>
          have HD : Hid (decA s bs1 = rdBind (rdBit bs1) (fun n b1 => decX (decT s) n b1)) := Lib.hid (by rw [decA_eq, rdCnt, if_pos h1])
          rw [h1] at f1w
          clear h1 hn1 HCN
          go_upto_region 21 with fail
          go_wp2_with fail
          refine (rbit_v R bs1 e1 wo HRD.out).mono ?_
          rintro en w2 ⟨n, bs2, e2, rfl, hnl, hres, hr2, hc2⟩
          have HRES : Hid (∀ x bs3 e3, Res e2 (decX (decT s) n bs2) x bs3 e3 → Res e1 (decA s bs1) x bs3 e3) := Lib.hid (fun x bs3 e3 h => by rw [HD.out]; exact hres.bind h)
          have HR2 := Lib.hid hr2; have HC2 := Lib.hid hc2
          have f1w2 := hc2.keep f1w (show ¬ (sb = R) by omega)
          have hn3 : n ≤ 1000 := by omega
          clear hres hr2 hc2 HD c0 f1w hnl
          go_upto_region 25 with fail
          clear f1w2
        case' neg =>
          by_cases h2 : s.rep = 2
          case' pos =>
            have HD : Hid (decA s bs1 = rdBind (rdNum 50 4 bs1) (fun n b1 => decX (decT s) n b1)) := Lib.hid (by rw [decA_eq, rdCnt, if_neg h1, if_pos h2])
            rw [h2] at f1w
            clear h1 h2 hn1 HCN
            go_upto_region 23 with fail
            go_wp2_with fail
            refine (rnum_v R bs1 e1 50 4 wo HRD.out (by decide) (by decide)).mono ?_
            rintro en w2 ⟨n, bs2, e2, rfl, hnl, hres, hr2, hc2⟩
            have HRES : Hid (∀ x bs3 e3, Res e2 (decX (decT s) n bs2) x bs3 e3 → Res e1 (decA s bs1) x bs3 e3) := Lib.hid (fun x bs3 e3 h => by rw [HD.out]; exact hres.bind h)
            have HR2 := Lib.hid hr2; have HC2 := Lib.hid hc2
            have hn3 : n ≤ 1000 := by omega
            clear hres hr2 hc2 HD c0 f1w hnl
            go_upto_region 25 with fail
          case' neg =>
            have d1 : (s.rep == 1) = false := beq_eq_false_iff_ne.2 h1
            have d2 : (s.rep == 2) = false := beq_eq_false_iff_ne.2 h2
            have HRES : Hid (∀ x bs3 e3, Res e1 (decX (decT s) n1 bs1) x bs3 e3 → Res e1 (decA s bs1) x bs3 e3) := Lib.hid (fun x bs3 e3 h => by rw [decA_eq, rdCnt, if_neg h1, if_neg h2]; rw [hn1.out] at h; exact h)
            have hn3 : n1 ≤ 1000 := by have := hn1.out; omega
            clear h1 h2 hn1
            go_upto_region 25 with fail
            clear d1 d2 c0 f1w HCN
            obtain ⟨w2, hw2⟩ : ∃ w2 : World, w2 = wo := ⟨_, rfl⟩
            have HR2 : Hid (RdR R w2 bs1 e1) := Lib.hid (hw2 ▸ HRD.out)
            have HC2 : Hid (Chg (fun k => k = R) wo w2) := Lib.hid (hw2 ▸ Chg.refl _ _)
            rw [← hw2]
            clear hw2
            obtain ⟨n, hn⟩ : ∃ n : Nat, n = n1 := ⟨_, rfl⟩
            rw [← hn] at HRES hn3 ⊢
            clear hn n1
            have HR2' := HR2; have HRES' := HRES
            obtain ⟨bs2, hbs2⟩ : ∃ bs2 : List UInt8, bs2 = bs1 := ⟨_, rfl⟩
            obtain ⟨e2, he2⟩ : ∃ e2 : Nat, e2 = e1 := ⟨_, rfl⟩
            have HR2 : Hid (RdR R w2 bs2 e2) := Lib.hid (by rw [hbs2, he2]; exact HR2'.out)
            have HRES : Hid (∀ x bs3 e3, Res e2 (decX (decT s) n bs2) x bs3 e3 → Res e1 (decA s bs1) x bs3 e3) := Lib.hid (by rw [hbs2, he2]; exact HRES'.out)
            clear HR2' HRES' hbs2 he2
        all_goals
          have hsz2 := HC2.out.size
          have HCO := Lib.hid (HC.out.trans HC2.out (fun _ _ h => h))
          have HOK2 := Lib.hid (HOK.out.chg HC2.out (fun b hb => by omega))
          have HRT2 := Lib.hid (RT.out.chg HC2.out (by omega)); have HRO2 := Lib.hid (RO.out.chg HC2.out (by omega))
          have tl2 := HRT2.out.lt
          have hkl := HOK2.out.lt
          have HKL := Lib.hid hkl
          clear hkl
          clear HC HC2 HOK RT RO HRD
          go_wp2_with fail
          go_loopw [12, 13] (fun lv kv wr => ∃ (x : List Tr) (aL : Option Addr) (cL : Nat) (ys : List Value) (bs3 : List UInt8) (e3 : Nat), lv = .slice aL x.length cL ∧ kv = .int .i64 (x.length : Int) ∧ x.length ≤ n ∧ Hid (ORow 35 w2.heap.size wr aL x.length cL x ys) ∧ Hid (RdR R wr bs3 e3) ∧ Hid (Way (decT s) n bs2 e2 x bs3 e3) ∧ Hid (Chg (fun k => k = R) w2 wr)) (fun _ kv _ => n - (intOf kv).toNat)
          case atStart => exact ⟨[], none, 0, [], bs2, e2, rfl, rfl, Nat.zero_le _, Lib.hid (ORow.nil _ _ _), HR2, Lib.hid (Way.start _ _ _ _), Lib.hid (Chg.refl _ _)⟩
          case round =>
            clear HR2
            obtain ⟨x, aL, cL, ys, bs3, e3, rfl, rfl, hx, HO, HR3, HWX, HC3⟩ := hrel
            have hsz3 := HC3.out.size
            obtain ⟨ba3, bc3, fu3, p3, r3, _⟩ := HR3.out
            have q2 : wr.cell? ⟨R, 2, none⟩ = some (.int .i64 (e3 : Int)) := r3.rw.cell 2
            clear r3
            by_cases hgo : x.length < n ∧ e3 = 0
            · obtain ⟨hk, rfl⟩ := hgo
              have hk' : (x.length : Int) < (n : Int) := by omega
              have he2 := HWX.out.zero
              subst he2
              go_wp2_with fail
              refine (HTS.out j bs3 0 wr HIXS.out (HSL.out.chg ((HCO.out.trans HC3.out (fun _ _ h => h))) (fun k hk => by omega)) (HPQ.out.chg ((HCO.out.trans HC3.out (fun _ _ h => h))) (fun k hk => by omega)) HR3.out).mono ?_
              rintro en w4 ⟨t, a4, c4, bs4, e4, rfl, ht, hres, hrd4, hc4⟩
              have HW4 := Lib.hid (HWX.out.step hk hres)
              have hsz4 := hc4.size
              have hor4 := HO.out.chg hc4 (fun b hb => by omega)
              have HOR4 := Lib.hid (hor4.chg ((Chg.refl (fun _ => False) w4).alloc (.cells #[.int .i64 t.n, .string t.s, .slice a4 t.kids.length c4] 35)) (fun _ _ h => h))
              have hlt4 := HO.out.lt
              have HT4 := Lib.hid (TrG.go (ok' := fun b => w2.heap.size ≤ b ∧ ¬ blk aL b) ((Chg.refl (fun _ => False) w4).alloc (.cells #[.int .i64 t.n, .string t.s, .slice a4 t.kids.length c4] 35)) (fun b _ hb => ⟨fun h => h, by omega, fun h => by have := hlt4 b h; omega⟩) ht)
              have HOO := Lib.hid hor4.own
              have HR4 := Lib.hid hrd4; have HC4 := Lib.hid (HC3.out.trans hc4 (fun _ _ h => h))
              clear hres hrd4 hc4 ht hor4 hlt4 q2
              have tok1 : True := trivial
              go_wp2_with (first
                | (at_builtin; have _t := tok1; clear tok1; clear _t; refine wpList_append (B := w2.heap.size) rfl _ _ _ _ rfl it (.agg #[.int .i64 0, .string ByteArray.empty, .slice none 0 0]) 48 Try.underlying28 hit hz0t hz1t hz2t rfl rfl (HOO.out.alloc _) _ rfl _ _ (src_built (e' := 35) Try.underlying28 w4 #[.int .i64 t.n, .string t.s, .slice a4 t.kids.length c4] 35 1 3 rfl (by simp [Value.oneCell'])) (by simp only [maxLen]; omega) (by omega) (by first | omega | (simp; omega) | simp) ?_; intro a5 cap5 w5 ho5 hc5 hn5); (have HOR5 := Lib.hid (ORow.push HOR4.out HT4.out ho5 hc5 hn5)); (have HC5 := Lib.hid hc5); clear ho5 hc5 hn5
                | fail)
              go_roundw
              case rel =>
                have hl1 : (x ++ [t]).length = x.length + 1 := by simp
                have hrr : RdR R w5 bs4 e4 := (HR4.out.below (ba (b0 w4) (.cells #[.int .i64 t.n, .string t.s, .slice a4 t.kids.length c4] 35))).low (HC5.out.below (by simp; omega) (fun i hi h => by omega))
                have hcc : Chg (fun k => k = R) w2 w5 := (HC4.out.alloc (.cells #[.int .i64 t.n, .string t.s, .slice a4 t.kids.length c4] 35)).trans HC5.out (fun b hb h => by omega)
                refine ⟨x ++ [t], a5, cap5, ys ++ [.int .i64 t.n, .string t.s, .slice a4 t.kids.length c4], bs4, e4, by rw [hl1], by rw [hl1]; go_num, by omega, Lib.hid ?_, Lib.hid hrr, HW4, Lib.hid hcc⟩
                rw [hl1]; exact HOR5.out
              case measure => simp [intOf]; omega
            · have HRES3 : Hid (Res e1 (decA s bs1) x bs3 e3) := Lib.hid (HRES.out _ _ _ (HWX.out.done (fun h => by omega)))
              have HWK := Lib.hid (HW.out.step HDR.out HRES3.out)
              have hokq := HOK2.out.chg HC3.out (fun b hb => by omega)
              have HOKA := Lib.hid (hokq.chg ((Chg.refl (fun _ => False) wr).alloc (.cells #[.slice aL x.length cL] 28)) (fun _ _ h => h))
              have HKO := Lib.hid hokq.own
              have hltK := HKL.out
              have hslx := HO.out.sl
              have HSLX := Lib.hid (Sl.go (ok' := fun b => T + 1 ≤ b ∧ ¬ blk aK b) ((Chg.refl (fun _ => False) wr).alloc (.cells #[.slice aL x.length cL] 28)) (fun b _ hb => ⟨fun h => h, by omega, fun h => by have := hltK b h; omega⟩) hslx.1 (by decide))
              have HRWX := Lib.hid (RowG.go (ok' := fun b => T + 1 ≤ b ∧ ¬ blk aK b) ((Chg.refl (fun _ => False) wr).alloc (.cells #[.slice aL x.length cL] 28)) (fun b _ hb => ⟨fun h => h, by omega, fun h => by have := hltK b h; omega⟩) hslx.2)
              have rT := HRT2.out.chg HC3.out (show ¬ (T = R) by omega)
              have rR := HRO2.out.chg HC3.out (show ¬ (w.heap.size = R) by omega)
              have t2 : wr.cell? ⟨T, 2, none⟩ = some (.slice aK d cK) := rT.cell 2
              have t3l := rT.lt
              have HRT3 := Lib.hid rT; have HRO3 := Lib.hid rR
              clear hokq hslx rT rR hltK
              have tok1 : True := trivial
              by_cases hk : x.length < n
              · have he1 : e3 ≠ 0 := by omega
                have hk' : (x.length : Int) < (n : Int) := by omega
                have heb : ((e3 : Int) == 0) = false := beq_eq_false_iff_ne.2 (by omega)
                clear hgo he1
                go_wp2_with (first
                  | (at_builtin; have _t := tok1; clear tok1; clear _t; refine wpList_append (B := T + 1) rfl _ _ _ _ rfl ik (.slice none 0 0) 24 Try.underlying33 hik hz0k hz1k hz2k rfl rfl (HKO.out.alloc _) _ rfl _ _ (src_built (e' := 28) Try.underlying33 wr #[.slice aL x.length cL] 28 1 1 rfl (by simp [Value.oneCell'])) (by simp only [maxLen]; omega) (by omega) (by first | omega | (simp; omega) | simp) ?_; intro a5 cap5 w5 ho5 hc5 hn5); (have HOK5 := Lib.hid (OKid.push HOKA.out rfl HSLX.out HRWX.out ho5 hc5 hn5)); (have r5 := (HRT3.out.alloc (.cells #[.slice aL x.length cL] 28)).chg hc5 (show ¬ _ by rintro ⟨_, h, _⟩; omega)); (have t5 : w5.cell? ⟨T, 2, none⟩ = some (.slice aK d cK) := r5.cell 2); (have t5f := r5.frozen); (have t5l := r5.lt); (have HR5 := Lib.hid r5); (have HC5 := Lib.hid hc5); clear ho5 hc5 hn5 r5 t2 t3l
                  | fail)
                go_roundw
                case rel =>
                  have hch : Chg (fun b => b = T) w5 (w5.setCell ⟨T, 2, none⟩ (.slice a5 (d + 1) cap5)) := (Chg.refl (fun b => b = T) w5).setCell (p := ⟨T, 2, none⟩) (.inr rfl) _
                  refine ⟨j + 1, d + 1, j + s.size, a5, cap5, kks ++ [x], xs ++ [.slice aL x.length cL], bs3, e3, by go_num, by omega, by omega, HRE2, HIXR, Lib.hid (HR5.out.set 2 _), Lib.hid (HOK5.out.chg hch (fun b hb => by omega)), Lib.hid ?_, HWK, HDL, Lib.hid ?_, Lib.hid ?_⟩
                  · exact ((HR3.out.below (ba (b0 wr) (.cells #[.slice aL x.length cL] 28))).low (HC5.out.below (by simp; omega) (fun i hi h => by omega))).low (hch.below (by omega) (fun i hi h => by omega))
                  · exact (((HCO.out.trans HC3.out (fun _ _ h => h)).alloc (.cells #[.slice aL x.length cL] 28)).trans HC5.out (fun b hb h => by omega)).trans hch (fun b hb h => by omega)
                  · exact ((HRO3.out.alloc (.cells #[.slice aL x.length cL] 28)).chg HC5.out (show ¬ _ by rintro ⟨_, h, _⟩; omega)).other (p := ⟨T, 2, none⟩) (by show w.heap.size ≠ T; omega) _
                case measure => simp [intOf]; omega
              · have hk' : ¬ (x.length : Int) < (n : Int) := by omega
                clear hgo
                go_wp2_with (first
                  | (at_builtin; have _t := tok1; clear tok1; clear _t; refine wpList_append (B := T + 1) rfl _ _ _ _ rfl ik (.slice none 0 0) 24 Try.underlying33 hik hz0k hz1k hz2k rfl rfl (HKO.out.alloc _) _ rfl _ _ (src_built (e' := 28) Try.underlying33 wr #[.slice aL x.length cL] 28 1 1 rfl (by simp [Value.oneCell'])) (by simp only [maxLen]; omega) (by omega) (by first | omega | (simp; omega) | simp) ?_; intro a5 cap5 w5 ho5 hc5 hn5); (have HOK5 := Lib.hid (OKid.push HOKA.out rfl HSLX.out HRWX.out ho5 hc5 hn5)); (have r5 := (HRT3.out.alloc (.cells #[.slice aL x.length cL] 28)).chg hc5 (show ¬ _ by rintro ⟨_, h, _⟩; omega)); (have t5 : w5.cell? ⟨T, 2, none⟩ = some (.slice aK d cK) := r5.cell 2); (have t5f := r5.frozen); (have t5l := r5.lt); (have HR5 := Lib.hid r5); (have HC5 := Lib.hid hc5); clear ho5 hc5 hn5 r5 t2 t3l
                  | fail)
                go_roundw
                case rel =>
                  have hch : Chg (fun b => b = T) w5 (w5.setCell ⟨T, 2, none⟩ (.slice a5 (d + 1) cap5)) := (Chg.refl (fun b => b = T) w5).setCell (p := ⟨T, 2, none⟩) (.inr rfl) _
                  refine ⟨j + 1, d + 1, j + s.size, a5, cap5, kks ++ [x], xs ++ [.slice aL x.length cL], bs3, e3, by go_num, by omega, by omega, HRE2, HIXR, Lib.hid (HR5.out.set 2 _), Lib.hid (HOK5.out.chg hch (fun b hb => by omega)), Lib.hid ?_, HWK, HDL, Lib.hid ?_, Lib.hid ?_⟩
                  · exact ((HR3.out.below (ba (b0 wr) (.cells #[.slice aL x.length cL] 28))).low (HC5.out.below (by simp; omega) (fun i hi h => by omega))).low (hch.below (by omega) (fun i hi h => by omega))
                  · exact (((HCO.out.trans HC3.out (fun _ _ h => h)).alloc (.cells #[.slice aL x.length cL] 28)).trans HC5.out (fun b hb h => by omega)).trans hch (fun b hb h => by omega)
                  · exact ((HRO3.out.alloc (.cells #[.slice aL x.length cL] 28)).chg HC5.out (show ¬ _ by rintro ⟨_, h, _⟩; omega)).other (p := ⟨T, 2, none⟩) (by show w.heap.size ≠ T; omega) _
                case measure => simp [intOf]; omega
      · have hrn := rest_no hjP hp
        have HRE2 : Hid (rest P i (j + 1) = offs o (ks.drop d)) := Lib.hid (hrn ▸ HRE.out)
        have d1 : (P[j] != (i : Int)) = true := by simpa using hp
        subst hpa
        have hj0 : (0 : Int) ≤ (j : Int) := by omega
        have hjl' : (j : Int) < (l.length : Int) := by omega
        clear hpc hrn hp
        generalize P[j] = pj at *
        go_wp2_with fail
        go_roundw
        case rel => exact ⟨j + 1, d, o, aK, cK, kks, xs, bs1, e1, by go_num, by omega, by omega, HRE2, HIX, RT, HOK, HRD, HW, HDK, HC, RO⟩
        case measure => simp [intOf]; omega
    · obtain rfl : j = l.length := by omega
      have hre := HRE.out
      rw [rest_end (by rw [HP.out]; exact Nat.le_refl _)] at hre
      have htd := offs_nil hre.symm
      have hdk : d = ks.length := by
        have h1 := congrArg List.length htd
        simp at h1
        have := HDK.out; omega
      have HW2 := HW.out
      rw [hdk] at HW2
      have HRES := Lib.hid (HW2.done.map (fun k => Tr.mk 0 ⟨#[]⟩ k))
      have HOS := Lib.hid HOK.out.sl
      have HKL := Lib.hid HOK.out.len
      have z0 : wo.cell? ⟨T, 0, none⟩ = some (.int .i64 0) := RT.out.cell 0
      have z1 : wo.cell? ⟨T, 1, none⟩ = some (.string ⟨#[]⟩) := RT.out.cell 1
      have z2 : wo.cell? ⟨T, 2, none⟩ = some (.slice aK d cK) := RT.out.cell 2
      have y0 : wo.cell? ⟨w.heap.size, 0, none⟩ = some (.int .i64 0) := RO.out.cell 0
      have y1 : wo.cell? ⟨w.heap.size, 1, none⟩ = some (.string ⟨#[]⟩) := RO.out.cell 1
      have y2 : wo.cell? ⟨w.heap.size, 2, none⟩ = some (.slice none 0 0) := RO.out.cell 2
      have yf := RO.out.frozen
      have yl := RO.out.lt
      clear hre htd hdk HW2 hlt
      go_wp2_with fail
      clear z0 z1 z2 y0 y1 y2 yf
      have hq := RO.out.set3 (u0 := .int .i64 0) (u1 := .string ⟨#[]⟩) (u2 := .slice aK d cK)
      have z0 := hq.cell 0; have z1 := hq.cell 1; have z2 := hq.cell 2
      refine bodyPost_ret (v := .agg #[.int .i64 0, .string ⟨#[]⟩, .slice aK d cK]) (by simp [results, Try.results37, go_sem, z0, z1, z2]) rfl ?_
      have hc4 : Chg (fun b => b = w.heap.size) wo (((wo.setCell ⟨w.heap.size, 0, none⟩ (.int .i64 0)).setCell ⟨w.heap.size, 1, none⟩ (.string ⟨#[]⟩)).setCell ⟨w.heap.size, 2, none⟩ (.slice aK d cK)) := (((Chg.refl (fun b => b = w.heap.size) wo).setCell (p := ⟨w.heap.size, 0, none⟩) (.inr rfl) _).setCell (p := ⟨w.heap.size, 1, none⟩) (.inr rfl) _).setCell (p := ⟨w.heap.size, 2, none⟩) (.inr rfl) _
      have hkl := HKL.out
      refine ⟨.mk 0 ⟨#[]⟩ kks, aK, cK, bs1, e1, by rw [hkl]; rfl, ?_, by rw [HE.out]; exact HRES.out, HRD.out.low (hc4.below (by omega) (fun i hi h => by omega)), HC.out.trans hc4 (fun i hi h => by omega)⟩
      have hS := Sl.go (ok' := fun b => w.heap.size ≤ b) hc4 (fun k hk h => ⟨by omega, by omega⟩) HOS.out.1 (by decide)
      have hK := KidG.go (ok' := fun b => w.heap.size ≤ b) hc4 (fun k hk h => ⟨by omega, by omega⟩) HOS.out.2
      simp only [TrG]
      exact ⟨aK, d, cK, xs, by rw [hkl]; rfl, by decide, hS, hK⟩
theorem rtree_rd (R : Nat) (sa : Option Addr) (scap : Nat) (pa : Option Addr) (pcap : Nat) (l : List Fl) (hlen : l.length ≤ 1000) : ∀ (N : Nat) (s : Sh), s.size ≤ N → TreeRdR R sa scap pa pcap l s
  | 0, .mk _ _ _ _, h => by simp [Sh.size] at h
  | N + 1, .mk nm rp kd ks, h => by
    by_cases c : kd = 1 ∨ kd = 2 ∨ kd = 3 ∨ kd = 4
    · exact rleaf_rd R sa scap pa pcap l nm rp kd ks c
    · exact rgrp_rd R sa scap pa pcap l nm rp kd ks (by omega) (by omega) (by omega) (by omega) hlen (fun s hs => rtree_rd R sa scap pa pcap l hlen N s (by have := sh_mem hs; simp only [Sh.size] at h; omega))
end Go.Proofs.Ytofhlopedflkiaa
namespace Go.Proofs.Ytofhlopedflkiaa
open Go.RowKit Go.Shr
set_option maxHeartbeats 2000000 in
set_option maxRecDepth 100000 in
theorem rparse_v (l : List Fl) (sh : Sh) (hS : Sch l sh) (sa : Option Addr) (scap : Nat) (ba' : Option Addr) (bcap : Nat) (bs : List UInt8) (w : World) (hs : Sl (fun b => b < w.heap.size) w 4 sa l.length scap (fls l)) (hb : Sl (fun b => b < w.heap.size) w 1 ba' bs.length bcap (u8s bs)) (hsm : bs.length ≤ 10000000000000) :
    Calls Try.prog 20 #[.slice sa l.length scap, .slice ba' bs.length bcap] w fun en w' => ∃ (x : List Tr) (a : Option Addr) (cap : Nat) (ys : List Value) (e : Nat), en = .returned (.tuple #[.slice a x.length cap, .int .i64 (e : Int)]) ∧ Sl (fun b => w.heap.size ≤ b) w' 3 a x.length cap ys ∧ RowG (fun b => w.heap.size ≤ b) w' x ys ∧ PRes (decR sh bs) x e ∧ Below w.heap.size w w' := by
  obtain ⟨it, hit, hz0t, hz1t, hz2t⟩ := info_parts info_tr
  have hll : l.length ≤ 1000 := by rw [hS.len]; exact hS.size
  have HS := Lib.hid hs; have HB := Lib.hid hb; have HSC := Lib.hid hS
  have HSM := Lib.hid hsm
  clear hs hb hS hsm
  go_enter Try.func20, Try.ntmps20
  go_wp2_with fail
  refine (refpar_v sa l.length scap l w HS.out hll HSC.out.kids).mono ?_
  rintro e w1 ⟨pa, pcap, rfl, hpp, hb1⟩
  have HB1 := Lib.hid hb1
  have HPS : Hid (Sl (fun b => b < w1.heap.size) w1 1 pa l.length pcap (ints (par l))) := Lib.hid (Sl.mono (ok' := fun b => b < w1.heap.size) hpp.own.sl (fun k hk _ => hk) (by decide))
  clear hb1 hpp
  go_wp2_with fail
  refine (rnew_v ba' bcap bs w1 HSM.out (slb HB.out HB1.out)).mono ?_
  rintro e w2 ⟨R, rfl, hrd, hR1, hb2⟩
  have hz1 := HB1.out.size
  have hz2 := hb2.size
  have HRD := Lib.hid hrd; have HB2 := Lib.hid (bt HB1.out hb2)
  have HS2 : Hid (Sl (fun b => b < R) w2 4 sa l.length scap (fls l)) := Lib.hid (Sl.go (Chg.ofBelow HB2.out) (fun k hk h => ⟨by omega, by omega⟩) HS.out (by decide))
  have HP2 : Hid (Sl (fun b => b < R) w2 1 pa l.length pcap (ints (par l))) := Lib.hid (Sl.go (Chg.ofBelow hb2) (fun k hk h => ⟨by omega, by omega⟩) HPS.out (by decide))
  have hRw := hrd.lt
  have hwR : w.heap.size ≤ R := by omega
  clear hrd hb2
  go_wp2_with fail
  refine (rnum_v R bs 0 200 4 w2 HRD.out (by decide) (by decide)).mono ?_
  rintro e w3 ⟨n, bs1, e1, rfl, hn, hres1, hr1, hc1⟩
  have HR1 := Lib.hid hr1; have HRES1 := Lib.hid hres1; have HC1 := Lib.hid hc1
  have hz3 := hc1.size
  clear hr1 hres1 hc1
  go_wp2_with fail
  go_loopw [9, 10] (fun lv kv wr => ∃ (x : List Tr) (aL : Option Addr) (cL : Nat) (ys : List Value) (bs3 : List UInt8) (e3 : Nat), lv = .slice aL x.length cL ∧ kv = .int .i64 (x.length : Int) ∧ x.length ≤ n ∧ Hid (ORow 35 w3.heap.size wr aL x.length cL x ys) ∧ Hid (RdR R wr bs3 e3) ∧ Hid (Way (decT sh) n bs1 e1 x bs3 e3) ∧ Hid (Chg (fun k => k = R) w3 wr)) (fun _ kv _ => n - (intOf kv).toNat)
  case atStart => exact ⟨[], none, 0, [], bs1, e1, rfl, rfl, Nat.zero_le _, Lib.hid (ORow.nil _ _ _), HR1, Lib.hid (Way.start _ _ _ _), Lib.hid (Chg.refl _ _)⟩
  case round =>
    clear HR1
    obtain ⟨x, aL, cL, ys, bs3, e3, rfl, rfl, hx, HO, HR3, HWX, HC3⟩ := hrel
    have hszr := HC3.out.size
    obtain ⟨ba3, bc3, fu3, p3, r3, _⟩ := HR3.out
    have q2 : wr.cell? ⟨R, 2, none⟩ = some (.int .i64 (e3 : Int)) := r3.rw.cell 2
    clear r3
    by_cases hgo : x.length < n ∧ e3 = 0
    · obtain ⟨hk, rfl⟩ := hgo
      have hk' : (x.length : Int) < (n : Int) := by omega
      have he2 := HWX.out.zero
      subst he2
      have hTS : TreeRdR R sa scap pa pcap l sh := rtree_rd R sa scap pa pcap l hll 1000 sh HSC.out.size
      have HTS := Lib.hid hTS
      clear hTS
      go_wp2_with fail
      refine (HTS.out 0 bs3 0 wr HSC.out.ix (HS2.out.chg ((HC1.out.trans HC3.out (fun _ _ h => h))) (fun k hk => by omega)) (HP2.out.chg ((HC1.out.trans HC3.out (fun _ _ h => h))) (fun k hk => by omega)) HR3.out).mono ?_
      rintro en w4 ⟨t, a4, c4, bs4, e4, rfl, ht, hres, hrd4, hc4⟩
      have HW4 := Lib.hid (HWX.out.step hk hres)
      have hsz4 := hc4.size
      have hor4 := HO.out.chg hc4 (fun b hb => by omega)
      have HOR4 := Lib.hid (hor4.chg ((Chg.refl (fun _ => False) w4).alloc (.cells #[.int .i64 t.n, .string t.s, .slice a4 t.kids.length c4] 35)) (fun _ _ h => h))
      have hlt4 := HO.out.lt
      have HT4 := Lib.hid (TrG.go (ok' := fun b => w3.heap.size ≤ b ∧ ¬ blk aL b) ((Chg.refl (fun _ => False) w4).alloc (.cells #[.int .i64 t.n, .string t.s, .slice a4 t.kids.length c4] 35)) (fun b _ hb => ⟨fun h => h, by omega, fun h => by have := hlt4 b h; omega⟩) ht)
      have HOO := Lib.hid hor4.own
      have HR4 := Lib.hid hrd4; have HC4 := Lib.hid (HC3.out.trans hc4 (fun _ _ h => h))
      clear hres hrd4 hc4 ht hor4 hlt4 q2
      have tok1 : True := trivial
      go_wp2_with (first
        | (at_builtin; have _t := tok1; clear tok1; clear _t; refine wpList_append (B := w3.heap.size) rfl _ _ _ _ rfl it (.agg #[.int .i64 0, .string ByteArray.empty, .slice none 0 0]) 48 Try.underlying28 hit hz0t hz1t hz2t rfl rfl (HOO.out.alloc _) _ rfl _ _ (src_built (e' := 35) Try.underlying28 w4 #[.int .i64 t.n, .string t.s, .slice a4 t.kids.length c4] 35 1 3 rfl (by simp [Value.oneCell'])) (by simp only [maxLen]; omega) (by omega) (by first | omega | (simp; omega) | simp) ?_; intro a5 cap5 w5 ho5 hc5 hn5); (have HOR5 := Lib.hid (ORow.push HOR4.out HT4.out ho5 hc5 hn5)); (have HC5 := Lib.hid hc5); clear ho5 hc5 hn5
        | fail)
      go_roundw
      case rel =>
        have hl1 : (x ++ [t]).length = x.length + 1 := by simp
        have hrr : RdR R w5 bs4 e4 := (HR4.out.below (ba (b0 w4) (.cells #[.int .i64 t.n, .string t.s, .slice a4 t.kids.length c4] 35))).low (HC5.out.below (by simp; omega) (fun i hi h => by omega))
        have hcc : Chg (fun k => k = R) w3 w5 := (HC4.out.alloc (.cells #[.int .i64 t.n, .string t.s, .slice a4 t.kids.length c4] 35)).trans HC5.out (fun b hb h => by omega)
        refine ⟨x ++ [t], a5, cap5, ys ++ [.int .i64 t.n, .string t.s, .slice a4 t.kids.length c4], bs4, e4, by rw [hl1], by rw [hl1]; go_num, by omega, Lib.hid ?_, Lib.hid hrr, HW4, Lib.hid hcc⟩
        rw [hl1]; exact HOR5.out
      case measure => simp [intOf]; omega
    · have HRES := Lib.hid (pres (HRES1.out.bind (HWX.out.done (fun h => by omega))))
      have hsl := HO.out.sl
      have HS4 := Lib.hid (Sl.mono (ok' := fun b => w.heap.size ≤ b) hsl.1 (fun k _ h => by omega) (by decide))
      have HW4 := Lib.hid (RowG.go (ok' := fun b => w.heap.size ≤ b) (Chg.refl (fun _ => False) wr) (fun k _ h => ⟨fun h => h, by omega⟩) hsl.2)
      have HB4 : Hid (Below w.heap.size w wr) := Lib.hid (Chg.bt HB2.out (HC1.out.trans HC3.out (fun _ _ h => h)) (fun i hi h => by omega))
      have hxn : x.length ≤ 200 := by omega
      clear hsl
      by_cases hk : x.length < n
      · have he1 : e3 ≠ 0 := by omega
        have hk' : (x.length : Int) < (n : Int) := by omega
        have heb : ((e3 : Int) == 0) = false := beq_eq_false_iff_ne.2 (by omega)
        clear hgo
        go_wp2_with fail
        refine (rend_v R bs3 e3 wr HR3.out).mono ?_
        rintro e w5 ⟨e5, rfl, he5, hb5⟩
        obtain rfl : e5 = e3 := he5.out.1 he1
        have HP := Lib.hid (HRES.out.1 he1)
        have HB5 := Lib.hid (bt HB4.out hb5)
        have heb5 : ((e5 : Int) != 0) = true := by simp; omega
        clear he5 hb5 he1 q2
        go_wp2_with fail
        go_ret2
        exact ⟨[], none, 0, [], e5, rfl, Sl.nil _ _ _ _, by simp [RowG], HP.out, HB5.out⟩
      · have hk' : ¬ (x.length : Int) < (n : Int) := by omega
        clear hgo
        go_wp2_with fail
        refine (rend_v R bs3 e3 wr HR3.out).mono ?_
        rintro e w5 ⟨e5, rfl, he5, hb5⟩
        have HB5 := Lib.hid (bt HB4.out hb5)
        have HS5 := Lib.hid (Sl.go (ok' := fun b => w.heap.size ≤ b) (Chg.ofBelow hb5) (fun k hk h => ⟨by omega, h⟩) HS4.out (by decide))
        have HW5 := Lib.hid (RowG.go (ok' := fun b => w.heap.size ≤ b) (Chg.ofBelow hb5) (fun k hk h => ⟨by omega, h⟩) HW4.out)
        have hcase : (e5 ≠ 0 ∧ PRes (decR sh bs) [] e5) ∨ (e5 = 0 ∧ PRes (decR sh bs) x 0) := by
          obtain ⟨g1, g2, g3⟩ := he5.out
          obtain ⟨k1, k2, k3⟩ := HRES.out
          by_cases he : e3 = 0
          · by_cases hl : 0 < bs3.length
            · have := g2 he hl
              subst this
              exact .inl ⟨by decide, k2 he hl⟩
            · exact .inr ⟨g3 he hl, k3 he hl⟩
          · have := g1 he
            subst this
            exact .inl ⟨he, k1 he⟩
        clear he5 hb5 q2
        rcases hcase with ⟨he, hp⟩ | ⟨rfl, hp⟩
        · have heb5 : ((e5 : Int) != 0) = true := by simp; omega
          have HP := Lib.hid hp
          clear he hp
          go_wp2_with fail
          go_ret2
          exact ⟨[], none, 0, [], e5, rfl, Sl.nil _ _ _ _, by simp [RowG], HP.out, HB5.out⟩
        · have HP := Lib.hid hp
          clear hp
          go_wp2_with fail
          go_ret2
          exact ⟨x, aL, cL, ys, 0, rfl, HS5.out, HW5.out, HP.out, HB5.out⟩
end Go.Proofs.Ytofhlopedflkiaa
