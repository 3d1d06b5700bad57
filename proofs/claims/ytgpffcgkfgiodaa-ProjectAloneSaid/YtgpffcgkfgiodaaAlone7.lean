/-
  The walk of ProjectAlone.
-/
import Derived.Test.YtgpffcgkfgiodaaRes7
import Derived.Test.YtgpffcgkfgiodaaVals7
import Derived.Test.YtgpffcgkfgiodaaSame8
import Derived.Deep.CutRange
import Derived.IntWalk
set_option linter.unusedSimpArgs false
namespace Go.Proofs.Ytgpffcgkfgiodaa
open Go.RowKit Go.Shr
/-- Trees in a row, as they are read. -/
def Trs (w : World) (V : List Tr) (a : Option Addr) (cap : Nat) : Prop := ∃ ys, Sl (fun b => b < w.heap.size) w 3 a V.length cap ys ∧ RowAt w V ys
theorem Trs.below {w w' : World} {V : List Tr} {a : Option Addr} {cap : Nat} (h : Trs w V a cap) (hb : Below w.heap.size w w') : Trs w' V a cap := by
  obtain ⟨ys, h1, h2⟩ := h
  exact ⟨ys, slb h1 hb, RowAt.below hb _ _ h2⟩
theorem vals_sw {l : List Fl} {sh : Sh} (h : SW l sh) (lf : Nat) (sa pa a : Option Addr) (sc pc cap : Nat) (t : Tr) (w : World) (hs : Sl (fun b => b < w.heap.size) w 4 sa l.length sc (fls l)) (hp : Sl (fun b => b < w.heap.size) w 1 pa l.length pc (ints (par l)))
    (ht : TrAt w t [.int .i64 t.n, .string t.s, .slice a t.kids.length cap]) (hok : okT sh t) (hz : t.size ≤ 1000000000) :
    Calls Try.prog 27 #[.slice sa l.length sc, .slice pa l.length pc, .int .i64 0, .int .i64 (lf : Int), .agg #[.int .i64 t.n, .string t.s, .slice a t.kids.length cap]] w fun e w' => ∃ a cap, e = .returned (.slice a (valsT lf 0 sh t).length cap) ∧ Trs w' (valsT lf 0 sh t) a cap ∧ Below w.heap.size w w' := by
  have hll : l.length ≤ 1000 := by have := h.len; omega
  refine (vals_all l lf hll 1000 sh h.sch.size (Nat.le_refl _) (fun b => b < w.heap.size) 0 t sa pa a sc pc cap w (fun b hb => hb) h.sch.ix h.sch.good hok hz hs hp (TrAt.g _ _ ht)).mono ?_
  rintro e w' ⟨a2, c2, ys, rfl, ho, hr, hb⟩
  exact ⟨a2, c2, rfl, ⟨ys, ho.sl.mono (fun k hk _ => hk) (by decide), hr.at⟩, hb⟩
set_option maxHeartbeats 4000000 in
set_option maxRecDepth 100000 in
theorem law_alone (a0 : Option Addr) (n0 c0 : Nat) (z0 : List Int) (which : Int) (a3 : Option Addr) (n3 c3 : Nat) (z3 : List Int) (w : World)
    (h0 : Sl (fun b => b < w.heap.size) w 1 a0 n0 c0 (ints z0)) (w0 : ∀ z ∈ z0, (Lit.int .i64 z).wf = true) (_ : (Lit.int .i64 which).wf = true)
    (h3 : Sl (fun b => b < w.heap.size) w 1 a3 n3 c3 (ints z3)) (w3 : ∀ z ∈ z3, (Lit.int .i64 z).wf = true) :
    Calls Try.prog 9 #[.slice a0 n0 c0, .int .i64 which, .slice a3 n3 c3] w fun e w' => e = .returned (.bool true) ∧ Below w.heap.size w w' := by
  have H0 := Lib.hid h0; have W0 := Lib.hid w0; have H3 := Lib.hid h3; have W3 := Lib.hid w3
  clear h0 w0 h3 w3
  go_enter Try.func9, Try.ntmps9
  go_wp2_with fail
  refine ((known7 w).mono ?_)
  rintro e w1 ⟨rfl, hb1⟩
  have HB1 := Lib.hid hb1
  clear hb1
  go_wp2_with fail
  refine ((make5 a0 n0 c0 z0 w1 (slb H0.out HB1.out) W0.out).mono ?_)
  rintro e w2 ⟨aS, cS, rfl, hs, hb2⟩
  have HSW := Lib.hid (make_sw z0)
  have hl14 := (make_len z0).2
  have HTZ := Lib.hid (makeT_size z0 z3)
  have HS := Lib.hid (hs.sl.mono (ok' := fun b => b < w2.heap.size) (fun k hk _ => hk) (by decide))
  have HB2 := Lib.hid (bt HB1.out hb2)
  clear hs hb2
  generalize makeL z0 = l at *
  generalize makeSh z0 = sh at *
  have HWY := Lib.hid HSW.out.wy
  have HSC := Lib.hid HSW.out.sch
  go_wp2_with fail
  refine ((make8 aS cS l sh a3 n3 c3 z3 w2 HSC.out HS.out (slb H3.out HB2.out) W3.out).mono ?_)
  rintro e w3 ⟨at', tm, tcap, rfl, ht3, hb3⟩
  have HOK := Lib.hid (ok_make W3.out sh)
  generalize makeT sh z3 = tt at *
  have hta := ht3.at
  obtain rfl := tree_at hta
  have HT := Lib.hid hta
  have HS3 := Lib.hid (slb HS.out hb3)
  have HB3 := Lib.hid (bt HB2.out hb3)
  clear ht3 hta hb3 HS
  go_upto_region 5 with fail
  refine gen_wq (fun wB hwB => ?_)
  have hbB : Below w3.heap.size w3 wB := by rw [hwB]; exact ba (b0 w3) _
  have rT : Rw wB w3.heap.size #[.int .i64 tt.n, .string tt.s, .slice at' tt.kids.length tcap] 48 := by rw [hwB]; exact Rw.new w3 _ _
  clear hwB
  have HSB := Lib.hid (slb HS3.out hbB); have HTB := Lib.hid (TrAt.below hbB _ _ HT.out); have HBB := Lib.hid (bt HB3.out hbB)
  have RT := Lib.hid rT
  generalize w3.heap.size = T at *
  clear hbB rT HS3 HT HB3
  have hlp := HSC.out.leafs_pos
  have hll : (leafs l l.length).length ≤ l.length := leafs_le
  go_wp2_with fail
  refine ((leaves_v aS cS l wB HSB.out (by omega) HSC.out.kids).mono ?_)
  rintro e w4 ⟨aL, cL, rfl, hL, hb4⟩
  have HBX4 := Lib.hid (bt (b0 wB) hb4)
  have HS4 := Lib.hid (slb HSB.out hb4)
  obtain ⟨lb, rfl, _, _, hlc, _⟩ := hL.pos hlp
  have HLC := Lib.hid hlc
  clear hL hb4 hlc
  go_wp2_with fail
  refine ((within_7 which _ w4 (by omega) (by omega)).mono ?_)
  rintro e w5 ⟨rfl, rfl⟩
  have hq1 := Int.emod_nonneg which (show ((leafs l l.length).length : Int) ≠ 0 by omega)
  have hq2 := Int.emod_lt_of_pos which (show (0 : Int) < ((leafs l l.length).length : Int) by omega)
  obtain ⟨q, hq⟩ : ∃ q : Nat, which % ((leafs l l.length).length : Int) = (q : Int) := ⟨(which % ((leafs l l.length).length : Int)).toNat, by omega⟩
  rw [hq] at hq1 hq2 ⊢
  have hql : q < (leafs l l.length).length := by omega
  have cf := HLC.out _ _ (lvs_get l _ q hql).1
  have hfm := leafs_mem.1 (List.getElem_mem hql)
  obtain ⟨hfl, hfk⟩ := hfm
  have HFK := Lib.hid hfk
  generalize (leafs l l.length)[q] = f at *
  have hfp : 0 < f := by
    rcases Nat.eq_zero_or_pos f with e | e
    · rw [e] at hfk; exact absurd HSC.out.root_kind hfk
    · exact e
  clear hq hfk
  have HAL : Hid (allA l [ownS l f]) := Lib.hid (Wy.isA_own hfp hfl)
  have HOZ := Lib.hid (HWY.out.own_size f hfp hfl)
  have HEQ := Lib.hid (HSW.out.alone hfp hfl HFK.out HAL.out HOK.out)
  have HKS := Lib.hid (HSW.out.kept HAL.out)
  have HOK2 : Hid (okT (kS [ownS l f] sh) (keptTW (KW [ownS l f]) [] sh tt)) := Lib.hid (okT_pr sh [] tt HSC.out.good HOK.out)
  have HTZ2 : Hid ((keptTW (KW [ownS l f]) [] sh tt).size ≤ 1000000000) := Lib.hid (Nat.le_trans (keptTW_size sh [] tt) HTZ.out)
  have HVZ : Hid ((valsT f 0 sh tt).length ≤ 1000000000) := Lib.hid (Nat.le_trans (valsT_len f sh 0 tt) HTZ.out)
  go_wp2_with fail
  refine ((rpath_v aS cS l f w4 HS4.out (by omega) HSC.out.kids HWY.out.name_size hfp hfl).mono ?_)
  rintro e w5 ⟨rfl, hb5⟩
  have HBX5 := Lib.hid (bt HBX4.out hb5)
  have HS5 := Lib.hid (slb HS4.out hb5)
  clear hb5 cf
  generalize ownS l f = o at *
  go_wp2_with fail
  refine cgen (fun w6 hw6 => ?_)
  have hb6 : Below w5.heap.size w5 w6 := by rw [hw6]; exact ba (b0 w5) _
  have r6 : Rw w6 w5.heap.size #[.string o] 9 := by rw [hw6]; exact Rw.new w5 _ _
  clear hw6
  have HP6 : Hid (Sl (fun b => b < w6.heap.size) w6 1 (some ⟨w5.heap.size, 0, none⟩) 1 1 (strs [o])) := Lib.hid (Rw.sl' r6 1 1 rfl (by decide))
  have HBX6 := Lib.hid (bt HBX5.out hb6)
  have HS6 := Lib.hid (slb HS5.out hb6)
  clear hb6 r6
  refine (res_sw HSW.out aS (some ⟨w5.heap.size, 0, none⟩) cS 1 1 [o] w6 rfl (by simp) HS6.out HP6.out (by intro p hp; rw [List.mem_singleton.1 hp]; exact Nat.le_trans HOZ.out (by decide)) HAL.out).mono ?_
  rintro e w7 ⟨ak, ck, ap, cp, rfl, hk7, hp7, hb7⟩
  have HK7 := Lib.hid hk7; have HP7 := Lib.hid hp7
  have HS7 := Lib.hid (slb HS6.out hb7); have HBX7 := Lib.hid (bt HBX6.out hb7)
  clear hk7 hp7 hb7 HS6 HP6 HS5 HS4
  go_wp2_with fail
  have RT7 := Lib.hid (RT.out.below HBX7.out)
  have HTT7 := Lib.hid (TrAt.below HBX7.out _ _ HTB.out)
  have HLK := Lib.hid HKS.out.wy.pos
  have HLK2 := Lib.hid HKS.out.len
  have hmp : 0 < (kL [o] l sh).length := HLK.out
  have hm20 : (kL [o] l sh).length ≤ 20 := HLK2.out
  have hl20 : l.length ≤ 20 := HSW.out.len
  refine Go.Shr.wp_region_F (fun w' => w'.cell? ⟨T, 0, none⟩ = some (.int .i64 tt.n) ∧ w'.cell? ⟨T, 1, none⟩ = some (.string tt.s) ∧ w'.cell? ⟨T, 2, none⟩ = some (.slice at' tt.kids.length tcap)) [] (by kernel_rfl) ?g13rgS (fun hHeld => ?g13rgR)
  case g13rgS => (try dsimp only); (first | exact ⟨RT7.out.cell 0, RT7.out.cell 1, RT7.out.cell 2⟩ | exact ⟨r8.cell 0, r8.cell 1, r8.cell 2⟩)
  try dsimp only at hHeld
  obtain ⟨W, hW⟩ : ∃ W, W = w7.drew := ⟨_, rfl⟩; rw [← hW] at hHeld ⊢; (have r8 := Rw.ren hW RT7.out.drew); (have hb := Go.Shr.Below.ren hW (b0 w7).drew); clear hW
  refine Go.Shr.wpAnyF_take 0 (oi := { dst := some 46, op := Go.Op.move (Go.Operand.tmp 7), type := 25, pos := "more.go:106", after := #[], guard := none }) (v := ?g13rv1) rfl (by kernel_rfl) (fun _ _ _ h => h) (by assumption) (by rfl) ?g13ry1 ?g13rr1
  case g13ry1 => intro w hSw; obtain ⟨s1, s2, s3⟩ := hSw; go_simp; try with_reducible rfl
  try simp only [Act.put, List.setIfInBounds_toArray, List.set_cons_zero, List.set_cons_succ]
  refine Go.Shr.wpAnyF_take 1 (oi := { dst := some 47, op := Go.Op.move (Go.Operand.tmp 7), type := 25, pos := "more.go:106", after := #[], guard := none }) (v := ?g13rv2) rfl (by kernel_rfl) (fun _ _ _ h => h) (by assumption) (by rfl) ?g13ry2 ?g13rr2
  case g13ry2 => intro w hSw; obtain ⟨s1, s2, s3⟩ := hSw; go_simp; try with_reducible rfl
  try simp only [Act.put, List.setIfInBounds_toArray, List.set_cons_zero, List.set_cons_succ]
  refine Go.Shr.wpAnyF_take 3 (oi := { dst := some 49, op := Go.Op.move (Go.Operand.tmp 10), type := 3, pos := "more.go:106", after := #[], guard := none }) (v := ?g13rv3) rfl (by kernel_rfl) (fun _ _ _ h => h) (by assumption) (by rfl) ?g13ry3 ?g13rr3
  case g13ry3 => intro w hSw; obtain ⟨s1, s2, s3⟩ := hSw; go_simp; try with_reducible rfl
  try simp only [Act.put, List.setIfInBounds_toArray, List.set_cons_zero, List.set_cons_succ]
  refine Go.Shr.wpAnyF_take 4 (oi := { dst := some 50, op := Go.Op.load 48 (Go.Operand.tmp 8), type := 48, pos := "more.go:106", after := #[], guard := none }) (v := ?g13rv4) rfl (by kernel_rfl) (fun _ _ _ h => h) (by assumption) (by rfl) ?g13ry4 ?g13rr4
  case g13ry4 => intro w hSw; obtain ⟨s1, s2, s3⟩ := hSw; go_simp; try with_reducible rfl
  try simp only [Act.put, List.setIfInBounds_toArray, List.set_cons_zero, List.set_cons_succ]
  refine Go.Shr.wpAnyF_ready [2] (by kernel_rfl) (by simp) ?_
  refine Go.Shr.AllReadyF.cons 2 (o := { dst := some 48, op := Go.Op.call { callee := Go.Callee.value (Go.Operand.func 16), args := #[Go.Operand.tmp 47], argTypes := #[25] }, type := 22, pos := "more.go:106", after := #[{ on := 1, ground := Go.Ground.data }], guard := none }) rfl (fun K hK => ?g13ro5) ?g13rm5
  case g13rm5 => exact Go.Shr.AllReadyF.nil
  go_simp; refine (refpar_v aS l.length cS l W (slb HS7.out hb) (by omega) HSC.out.kids).mono ?_; rintro e W2 ⟨aP, cP, rfl, hp, hb2⟩; dsimp only; (replace r8 := r8.below hb2); (have HPA := Lib.hid (hp.own.sl.mono (ok' := fun b => b < W2.heap.size) (fun k hk _ => hk) (by decide))); (replace hb := bt hb hb2); clear hp hb2
  refine hK.out _ _ ?g13rs5 (fun hHeld => ?g13rt5)
  case g13rs5 => (try dsimp only); (first | exact ⟨RT7.out.cell 0, RT7.out.cell 1, RT7.out.cell 2⟩ | exact ⟨r8.cell 0, r8.cell 1, r8.cell 2⟩)
  try dsimp only at hHeld
  clear hK K
  try simp only [Act.put, List.setIfInBounds_toArray, List.set_cons_zero, List.set_cons_succ]
  refine Go.Shr.wpAnyF_ready [5] (by kernel_rfl) (by simp) ?_
  refine Go.Shr.AllReadyF.cons 5 (o := { dst := some 51, op := Go.Op.call { callee := Go.Callee.value (Go.Operand.func 27), args := #[Go.Operand.tmp 46, Go.Operand.tmp 48, Go.Operand.const (Go.Value.int Go.IntKind.i64 0), Go.Operand.tmp 49, Go.Operand.tmp 50], argTypes := #[25, 22, 3, 3, 48] }, type := 60, pos := "more.go:106", after := #[{ on := 0, ground := Go.Ground.data }, { on := 2, ground := Go.Ground.data }, { on := 3, ground := Go.Ground.data }, { on := 4, ground := Go.Ground.data }, { on := 2, ground := Go.Ground.chain }], guard := none }) rfl (fun K hK => ?g13ro6) ?g13rm6
  case g13rm6 => exact Go.Shr.AllReadyF.nil
  go_simp; refine (vals_sw HSW.out f aS aP at' cS cP tcap tt W2 (slb HS7.out hb) HPA.out (TrAt.below hb _ _ HTT7.out) HOK.out HTZ.out).mono ?_; rintro e W5 ⟨aV, cV, rfl, htv, hb5⟩; dsimp only; (replace r8 := r8.below hb5); (have HTV := Lib.hid htv); (replace hb := bt hb hb5); clear htv hb5
  refine hK.out _ _ ?g13rs6 (fun hHeld => ?g13rt6)
  case g13rs6 => (try dsimp only); (first | exact ⟨RT7.out.cell 0, RT7.out.cell 1, RT7.out.cell 2⟩ | exact ⟨r8.cell 0, r8.cell 1, r8.cell 2⟩)
  try dsimp only at hHeld
  clear hK K
  try simp only [Act.put, List.setIfInBounds_toArray, List.set_cons_zero, List.set_cons_succ]
  refine Go.Shr.wpAnyF_take 6 (oi := { dst := some 14, op := Go.Op.assign (Go.Operand.tmp 51), type := 60, pos := "more.go:106", after := #[{ on := 5, ground := Go.Ground.data }, { on := 5, ground := Go.Ground.chain }, { on := 0, ground := Go.Ground.phase }, { on := 1, ground := Go.Ground.phase }, { on := 2, ground := Go.Ground.phase }, { on := 3, ground := Go.Ground.phase }, { on := 4, ground := Go.Ground.phase }, { on := 5, ground := Go.Ground.phase }], guard := none }) (v := ?g13rv7) rfl (by kernel_rfl) (fun _ _ _ h => h) (by assumption) (by rfl) ?g13ry7 ?g13rr7
  case g13ry7 => intro w hSw; obtain ⟨s1, s2, s3⟩ := hSw; go_simp; try with_reducible rfl
  try simp only [Act.put, List.setIfInBounds_toArray, List.set_cons_zero, List.set_cons_succ]
  refine Go.Shr.wpAnyF_done (by kernel_rfl) ?_
  generalize hVV : valsT f 0 sh tt = V at *
  have HVV := Lib.hid hVV
  clear hVV hHeld
  have RT8 := Lib.hid r8
  have HB8 := Lib.hid hb
  have HBX8 := Lib.hid (bt HBX7.out hb)
  have HS8 := Lib.hid (slb HS7.out hb); have HP8 := Lib.hid (slb HP7.out hb); have HK8 := Lib.hid (slb HK7.out hb)
  have HTT8 := Lib.hid (TrAt.below hb _ _ HTT7.out)
  clear r8 hb HS7 HP7 HK7 HTT7 RT7 HPA
  have hw1 : IntKind.i64.wrap (((kL [o] l sh).length : Int) - 1) = ((kL [o] l sh).length : Int) - 1 := IntWalk.i64_in _ ⟨by omega, by omega⟩
  have hcast : ((kL [o] l sh).length : Int) - 1 = (((kL [o] l sh).length - 1 : Nat) : Int) := by omega
  have HCAST := Lib.hid hcast
  clear hcast
  go_wp2_with fail
  refine Go.Shr.wp_region_F (fun w' => w'.cell? ⟨T, 0, none⟩ = some (.int .i64 tt.n) ∧ w'.cell? ⟨T, 1, none⟩ = some (.string tt.s) ∧ w'.cell? ⟨T, 2, none⟩ = some (.slice at' tt.kids.length tcap)) [] (by kernel_rfl) ?g14rgS (fun hHeld => ?g14rgR)
  case g14rgS => (try dsimp only); (first | exact ⟨RT8.out.cell 0, RT8.out.cell 1, RT8.out.cell 2⟩ | exact ⟨r8.cell 0, r8.cell 1, r8.cell 2⟩)
  try dsimp only at hHeld
  obtain ⟨W, hW⟩ : ∃ W', W' = W5.drew := ⟨_, rfl⟩; rw [← hW] at hHeld ⊢; (have r8 := Rw.ren hW RT8.out.drew); (have hb := Go.Shr.Below.ren hW (b0 W5).drew); clear hW
  refine Go.Shr.wpAnyF_take 0 (oi := { dst := some 52, op := Go.Op.move (Go.Operand.tmp 12), type := 25, pos := "more.go:107", after := #[], guard := none }) (v := ?g14rv1) rfl (by kernel_rfl) (fun _ _ _ h => h) (by assumption) (by rfl) ?g14ry1 ?g14rr1
  case g14ry1 => intro w hSw; obtain ⟨s1, s2, s3⟩ := hSw; go_simp; try with_reducible rfl
  try simp only [Act.put, List.setIfInBounds_toArray, List.set_cons_zero, List.set_cons_succ]
  refine Go.Shr.wpAnyF_take 1 (oi := { dst := some 53, op := Go.Op.move (Go.Operand.tmp 12), type := 25, pos := "more.go:107", after := #[], guard := none }) (v := ?g14rv2) rfl (by kernel_rfl) (fun _ _ _ h => h) (by assumption) (by rfl) ?g14ry2 ?g14rr2
  case g14ry2 => intro w hSw; obtain ⟨s1, s2, s3⟩ := hSw; go_simp; try with_reducible rfl
  try simp only [Act.put, List.setIfInBounds_toArray, List.set_cons_zero, List.set_cons_succ]
  refine Go.Shr.wpAnyF_take 3 (oi := { dst := some 55, op := Go.Op.move (Go.Operand.tmp 12), type := 25, pos := "more.go:107", after := #[], guard := none }) (v := ?g14rv3) rfl (by kernel_rfl) (fun _ _ _ h => h) (by assumption) (by rfl) ?g14ry3 ?g14rr3
  case g14ry3 => intro w hSw; obtain ⟨s1, s2, s3⟩ := hSw; go_simp; try with_reducible rfl
  try simp only [Act.put, List.setIfInBounds_toArray, List.set_cons_zero, List.set_cons_succ]
  refine Go.Shr.wpAnyF_take 4 (oi := { dst := some 56, op := Go.Op.call { callee := Go.Callee.builtin Go.Builtin.len, args := #[Go.Operand.tmp 55], argTypes := #[25] }, type := 3, pos := "more.go:107", after := #[{ on := 3, ground := Go.Ground.data }], guard := none }) (v := ?g14rv4) rfl (by kernel_rfl) (fun _ _ _ h => h) (by assumption) (by rfl) ?g14ry4 ?g14rr4
  case g14ry4 => intro w hSw; obtain ⟨s1, s2, s3⟩ := hSw; go_simp; try with_reducible rfl
  try simp only [Act.put, List.setIfInBounds_toArray, List.set_cons_zero, List.set_cons_succ]
  refine Go.Shr.wpAnyF_take 5 (oi := { dst := some 57, op := Go.Op.binOp Go.BinOp.sub 3 (Go.Operand.tmp 56) (Go.Operand.const (Go.Value.int Go.IntKind.i64 1)) 3, type := 3, pos := "more.go:107", after := #[{ on := 4, ground := Go.Ground.data }], guard := none }) (v := ?g14rv5) rfl (by kernel_rfl) (fun _ _ _ h => h) (by assumption) (by rfl) ?g14ry5 ?g14rr5
  case g14ry5 => intro w hSw; obtain ⟨s1, s2, s3⟩ := hSw; go_simp; try with_reducible rfl
  try simp only [Act.put, List.setIfInBounds_toArray, List.set_cons_zero, List.set_cons_succ]
  refine Go.Shr.wpAnyF_take 6 (oi := { dst := some 58, op := Go.Op.move (Go.Operand.tmp 7), type := 25, pos := "more.go:107", after := #[], guard := none }) (v := ?g14rv6) rfl (by kernel_rfl) (fun _ _ _ h => h) (by assumption) (by rfl) ?g14ry6 ?g14rr6
  case g14ry6 => intro w hSw; obtain ⟨s1, s2, s3⟩ := hSw; go_simp; try with_reducible rfl
  try simp only [Act.put, List.setIfInBounds_toArray, List.set_cons_zero, List.set_cons_succ]
  refine Go.Shr.wpAnyF_take 7 (oi := { dst := some 59, op := Go.Op.move (Go.Operand.tmp 11), type := 32, pos := "more.go:107", after := #[], guard := none }) (v := ?g14rv7) rfl (by kernel_rfl) (fun _ _ _ h => h) (by assumption) (by rfl) ?g14ry7 ?g14rr7
  case g14ry7 => intro w hSw; obtain ⟨s1, s2, s3⟩ := hSw; go_simp; try with_reducible rfl
  try simp only [Act.put, List.setIfInBounds_toArray, List.set_cons_zero, List.set_cons_succ]
  refine Go.Shr.wpAnyF_take 8 (oi := { dst := some 60, op := Go.Op.load 48 (Go.Operand.tmp 8), type := 48, pos := "more.go:107", after := #[], guard := none }) (v := ?g14rv8) rfl (by kernel_rfl) (fun _ _ _ h => h) (by assumption) (by rfl) ?g14ry8 ?g14rr8
  case g14ry8 => intro w hSw; obtain ⟨s1, s2, s3⟩ := hSw; go_simp; try with_reducible rfl
  try simp only [Act.put, List.setIfInBounds_toArray, List.set_cons_zero, List.set_cons_succ]
  refine Go.Shr.wpAnyF_ready [2] (by kernel_rfl) (by simp) ?_
  refine Go.Shr.AllReadyF.cons 2 (o := { dst := some 54, op := Go.Op.call { callee := Go.Callee.value (Go.Operand.func 16), args := #[Go.Operand.tmp 53], argTypes := #[25] }, type := 22, pos := "more.go:107", after := #[{ on := 1, ground := Go.Ground.data }], guard := none }) rfl (fun K hK => ?g14ro9) ?g14rm9
  case g14rm9 => exact Go.Shr.AllReadyF.nil
  go_simp; refine (refpar_v ap _ cp _ W (slb HP8.out hb) (by omega) HKS.out.sch.kids).mono ?_; rintro e W2 ⟨aP, cP, rfl, hp, hb2⟩; dsimp only; (replace r8 := r8.below hb2); (have HPA := Lib.hid (hp.own.sl.mono (ok' := fun b => b < W2.heap.size) (fun k hk _ => hk) (by decide))); (replace hb := bt hb hb2); clear hp hb2
  refine hK.out _ _ ?g14rs9 (fun hHeld => ?g14rt9)
  case g14rs9 => (try dsimp only); (first | exact ⟨RT8.out.cell 0, RT8.out.cell 1, RT8.out.cell 2⟩ | exact ⟨r8.cell 0, r8.cell 1, r8.cell 2⟩)
  try dsimp only at hHeld
  clear hK K
  try simp only [Act.put, List.setIfInBounds_toArray, List.set_cons_zero, List.set_cons_succ]
  refine Go.Shr.wpAnyF_ready [9] (by kernel_rfl) (by simp) ?_
  refine Go.Shr.AllReadyF.cons 9 (o := { dst := some 61, op := Go.Op.call { callee := Go.Callee.value (Go.Operand.func 23), args := #[Go.Operand.tmp 58, Go.Operand.tmp 59, Go.Operand.tmp 60], argTypes := #[25, 32, 48] }, type := 48, pos := "more.go:107", after := #[{ on := 6, ground := Go.Ground.data }, { on := 7, ground := Go.Ground.data }, { on := 8, ground := Go.Ground.data }, { on := 2, ground := Go.Ground.chain }], guard := none }) rfl (fun K hK => ?g14ro10) ?g14rm10
  case g14rm10 => exact Go.Shr.AllReadyF.nil
  go_simp; refine (ptree_sw HSW.out [o] aS ak at' cS ck tcap tt W2 (slb HS8.out hb) (slb HK8.out hb) (TrAt.below hb _ _ HTT8.out) HOK.out).mono ?_; rintro e W9 ⟨x9, y9, rfl, ht9, hb9⟩; dsimp only; (replace r8 := r8.below hb9); (have HT9 := Lib.hid ht9); (replace HPA := Lib.hid (slb HPA.out hb9)); (replace hb := bt hb hb9); clear ht9 hb9
  refine hK.out _ _ ?g14rs10 (fun hHeld => ?g14rt10)
  case g14rs10 => (try dsimp only); (first | exact ⟨RT8.out.cell 0, RT8.out.cell 1, RT8.out.cell 2⟩ | exact ⟨r8.cell 0, r8.cell 1, r8.cell 2⟩)
  try dsimp only at hHeld
  clear hK K
  try simp only [Act.put, List.setIfInBounds_toArray, List.set_cons_zero, List.set_cons_succ]
  refine Go.Shr.wpAnyF_ready [10] (by kernel_rfl) (by simp) ?_
  refine Go.Shr.AllReadyF.cons 10 (o := { dst := some 62, op := Go.Op.call { callee := Go.Callee.value (Go.Operand.func 27), args := #[Go.Operand.tmp 52, Go.Operand.tmp 54, Go.Operand.const (Go.Value.int Go.IntKind.i64 0), Go.Operand.tmp 57, Go.Operand.tmp 61], argTypes := #[25, 22, 3, 3, 48] }, type := 60, pos := "more.go:107", after := #[{ on := 0, ground := Go.Ground.data }, { on := 2, ground := Go.Ground.data }, { on := 5, ground := Go.Ground.data }, { on := 9, ground := Go.Ground.data }, { on := 9, ground := Go.Ground.chain }], guard := none }) rfl (fun K hK => ?g14ro11) ?g14rm11
  case g14rm11 => exact Go.Shr.AllReadyF.nil
  go_simp; rw [HCAST.out]; refine (vals_sw HKS.out _ ap aP x9 cp cP y9 _ W9 (slb HP8.out hb) HPA.out HT9.out HOK2.out HTZ2.out).mono ?_; rintro e W10 ⟨aU, cU, rfl, htu, hb10⟩; rw [HEQ.out] at htu ⊢; dsimp only; (replace r8 := r8.below hb10); (have HTU := Lib.hid htu); (replace hb := bt hb hb10); clear htu hb10
  refine hK.out _ _ ?g14rs11 (fun hHeld => ?g14rt11)
  case g14rs11 => (try dsimp only); (first | exact ⟨RT8.out.cell 0, RT8.out.cell 1, RT8.out.cell 2⟩ | exact ⟨r8.cell 0, r8.cell 1, r8.cell 2⟩)
  try dsimp only at hHeld
  clear hK K
  try simp only [Act.put, List.setIfInBounds_toArray, List.set_cons_zero, List.set_cons_succ]
  refine Go.Shr.wpAnyF_take 11 (oi := { dst := some 15, op := Go.Op.assign (Go.Operand.tmp 62), type := 60, pos := "more.go:107", after := #[{ on := 10, ground := Go.Ground.data }, { on := 10, ground := Go.Ground.chain }, { on := 0, ground := Go.Ground.phase }, { on := 1, ground := Go.Ground.phase }, { on := 2, ground := Go.Ground.phase }, { on := 3, ground := Go.Ground.phase }, { on := 4, ground := Go.Ground.phase }, { on := 5, ground := Go.Ground.phase }, { on := 6, ground := Go.Ground.phase }, { on := 7, ground := Go.Ground.phase }, { on := 8, ground := Go.Ground.phase }, { on := 9, ground := Go.Ground.phase }, { on := 10, ground := Go.Ground.phase }], guard := none }) (v := ?g14rv12) rfl (by kernel_rfl) (fun _ _ _ h => h) (by assumption) (by rfl) ?g14ry12 ?g14rr12
  case g14ry12 => intro w hSw; obtain ⟨s1, s2, s3⟩ := hSw; go_simp; try with_reducible rfl
  try simp only [Act.put, List.setIfInBounds_toArray, List.set_cons_zero, List.set_cons_succ]
  refine Go.Shr.wpAnyF_done (by kernel_rfl) ?_
  have HBX10 := Lib.hid (bt HBX8.out hb)
  have HTV10 := Lib.hid (HTV.out.below hb)
  clear hHeld r8 hb hw1 HTV HPA HTT8 RT8 HS8 HP8 HK8
  have hVz : V.length ≤ 1000000000 := HVZ.out
  have hvb : ((V.length : Int) != (V.length : Int)) = false := by simp
  go_wp2_with fail
  clear hvb
  go_loopw [16] (fun iv wr => ∃ j : Nat, iv = .int .i64 (j : Int) ∧ j ≤ V.length ∧ Hid (Below W10.heap.size W10 wr)) (fun iv _ => V.length - (intOf iv).toNat)
  case atStart => exact ⟨0, rfl, Nat.zero_le _, Lib.hid (b0 W10)⟩
  case round =>
    obtain ⟨j, rfl, hj, HB⟩ := hrel
    have hszr := HB.out.size
    by_cases hlt : j < V.length
    · obtain ⟨ys, hsl, hrow⟩ := HTV10.out.below HB.out
      obtain ⟨zs, hsl2, hrow2⟩ := HTU.out.below HB.out
      obtain ⟨vb, vo, rfl, hvb, hvc⟩ := hsl.pos (by omega)
      obtain ⟨ub, uo, rfl, hub, huc⟩ := hsl2.pos (by omega)
      obtain ⟨ya, ym, ycap, yxs, y0, y1, y2, hym, hyss, hysl, hyk⟩ := hrow.get j hlt
      obtain ⟨za, zm, zcap, zxs, z0, z1, z2, hzm, hzss, hzsl, hzk⟩ := hrow2.get j hlt
      have c0 := hvc _ _ y0; have c1 := hvc _ _ y1; have c2 := hvc _ _ y2
      have d0 := huc _ _ z0; have d1 := huc _ _ z1; have d2 := huc _ _ z2
      subst hym hzm
      rw [← Nat.add_assoc] at c1 c2 d1 d2
      have HTY := Lib.hid (TrAt.mk' hyss hysl hyk); have HTZ' := Lib.hid (TrAt.mk' hzss hzsl hzk)
      generalize V[j] = y at *
      have HCC := Lib.hid (And.intro (And.intro c0 (And.intro c1 c2)) (And.intro d0 (And.intro d1 d2)))
      have HST := Lib.hid (sameT_refl y)
      have hjl : (j : Int) < (V.length : Int) := by omega
      clear hsl hrow hsl2 hrow2 hvc huc y0 y1 y2 z0 z1 z2 hyss hysl hyk hzss hzsl hzk c0 c1 c2 d0 d1 d2
      go_wp2_with fail
      refine Go.Shr.wp_region_F (fun w' => (w'.cell? ⟨vb, vo + j * 3, none⟩ = some (.int .i64 y.n) ∧ w'.cell? ⟨vb, vo + j * 3 + 1, none⟩ = some (.string y.s) ∧ w'.cell? ⟨vb, vo + j * 3 + 2, none⟩ = some (.slice ya y.kids.length ycap)) ∧ w'.cell? ⟨ub, uo + j * 3, none⟩ = some (.int .i64 y.n) ∧ w'.cell? ⟨ub, uo + j * 3 + 1, none⟩ = some (.string y.s) ∧ w'.cell? ⟨ub, uo + j * 3 + 2, none⟩ = some (.slice za y.kids.length zcap)) [] (by kernel_rfl) ?g15rgS (fun hHeld => ?g15rgR)
      case g15rgS => (try dsimp only); (first | exact HCC.out | exact ⟨⟨cb hb HCC.out.1.1, cb hb HCC.out.1.2.1, cb hb HCC.out.1.2.2⟩, cb hb HCC.out.2.1, cb hb HCC.out.2.2.1, cb hb HCC.out.2.2.2⟩)
      try dsimp only at hHeld
      obtain ⟨W, hW⟩ : ∃ W', W' = wr.drew := ⟨_, rfl⟩; rw [← hW] at hHeld ⊢; (have hb := Go.Shr.Below.ren hW (b0 wr).drew); clear hW
      refine Go.Shr.wpAnyF_take 0 (oi := { dst := some 74, op := Go.Op.move (Go.Operand.tmp 14), type := 60, pos := "more.go:112", after := #[], guard := none }) (v := ?g15rv1) rfl (by kernel_rfl) (fun _ _ _ h => h) (by assumption) (by rfl) ?g15ry1 ?g15rr1
      case g15ry1 => intro w hSw; obtain ⟨⟨s1, s2, s3⟩, s4, s5, s6⟩ := hSw; go_simp; try with_reducible rfl
      try simp only [Act.put, List.setIfInBounds_toArray, List.set_cons_zero, List.set_cons_succ]
      refine Go.Shr.wpAnyF_take 1 (oi := { dst := some 75, op := Go.Op.move (Go.Operand.tmp 16), type := 3, pos := "more.go:112", after := #[], guard := none }) (v := ?g15rv2) rfl (by kernel_rfl) (fun _ _ _ h => h) (by assumption) (by rfl) ?g15ry2 ?g15rr2
      case g15ry2 => intro w hSw; obtain ⟨⟨s1, s2, s3⟩, s4, s5, s6⟩ := hSw; go_simp; try with_reducible rfl
      try simp only [Act.put, List.setIfInBounds_toArray, List.set_cons_zero, List.set_cons_succ]
      refine Go.Shr.wpAnyF_take 2 (oi := { dst := some 76, op := Go.Op.indexAddr 60 (Go.Operand.tmp 74) (Go.Operand.tmp 75), type := 0, pos := "more.go:112", after := #[{ on := 0, ground := Go.Ground.data }, { on := 1, ground := Go.Ground.data }], guard := none }) (v := ?g15rv3) rfl (by kernel_rfl) (fun _ _ _ h => h) (by assumption) (by rfl) ?g15ry3 ?g15rr3
      case g15ry3 => intro w hSw; obtain ⟨⟨s1, s2, s3⟩, s4, s5, s6⟩ := hSw; go_simp; try with_reducible rfl
      try simp only [Act.put, List.setIfInBounds_toArray, List.set_cons_zero, List.set_cons_succ]
      refine Go.Shr.wpAnyF_take 3 (oi := { dst := some 77, op := Go.Op.load 48 (Go.Operand.tmp 76), type := 48, pos := "more.go:112", after := #[{ on := 2, ground := Go.Ground.data }], guard := none }) (v := ?g15rv4) rfl (by kernel_rfl) (fun _ _ _ h => h) (by assumption) (by rfl) ?g15ry4 ?g15rr4
      case g15ry4 => intro w hSw; obtain ⟨⟨s1, s2, s3⟩, s4, s5, s6⟩ := hSw; go_simp; try with_reducible rfl
      try simp only [Act.put, List.setIfInBounds_toArray, List.set_cons_zero, List.set_cons_succ]
      refine Go.Shr.wpAnyF_take 4 (oi := { dst := some 78, op := Go.Op.move (Go.Operand.tmp 15), type := 60, pos := "more.go:112", after := #[], guard := none }) (v := ?g15rv5) rfl (by kernel_rfl) (fun _ _ _ h => h) (by assumption) (by rfl) ?g15ry5 ?g15rr5
      case g15ry5 => intro w hSw; obtain ⟨⟨s1, s2, s3⟩, s4, s5, s6⟩ := hSw; go_simp; try with_reducible rfl
      try simp only [Act.put, List.setIfInBounds_toArray, List.set_cons_zero, List.set_cons_succ]
      refine Go.Shr.wpAnyF_take 5 (oi := { dst := some 79, op := Go.Op.move (Go.Operand.tmp 16), type := 3, pos := "more.go:112", after := #[], guard := none }) (v := ?g15rv6) rfl (by kernel_rfl) (fun _ _ _ h => h) (by assumption) (by rfl) ?g15ry6 ?g15rr6
      case g15ry6 => intro w hSw; obtain ⟨⟨s1, s2, s3⟩, s4, s5, s6⟩ := hSw; go_simp; try with_reducible rfl
      try simp only [Act.put, List.setIfInBounds_toArray, List.set_cons_zero, List.set_cons_succ]
      refine Go.Shr.wpAnyF_take 6 (oi := { dst := some 80, op := Go.Op.indexAddr 60 (Go.Operand.tmp 78) (Go.Operand.tmp 79), type := 0, pos := "more.go:112", after := #[{ on := 4, ground := Go.Ground.data }, { on := 5, ground := Go.Ground.data }], guard := none }) (v := ?g15rv7) rfl (by kernel_rfl) (fun _ _ _ h => h) (by assumption) (by rfl) ?g15ry7 ?g15rr7
      case g15ry7 => intro w hSw; obtain ⟨⟨s1, s2, s3⟩, s4, s5, s6⟩ := hSw; go_simp; try with_reducible rfl
      try simp only [Act.put, List.setIfInBounds_toArray, List.set_cons_zero, List.set_cons_succ]
      refine Go.Shr.wpAnyF_take 7 (oi := { dst := some 81, op := Go.Op.load 48 (Go.Operand.tmp 80), type := 48, pos := "more.go:112", after := #[{ on := 6, ground := Go.Ground.data }], guard := none }) (v := ?g15rv8) rfl (by kernel_rfl) (fun _ _ _ h => h) (by assumption) (by rfl) ?g15ry8 ?g15rr8
      case g15ry8 => intro w hSw; obtain ⟨⟨s1, s2, s3⟩, s4, s5, s6⟩ := hSw; go_simp; try with_reducible rfl
      try simp only [Act.put, List.setIfInBounds_toArray, List.set_cons_zero, List.set_cons_succ]
      refine Go.Shr.wpAnyF_ready [8] (by kernel_rfl) (by simp) ?_
      refine Go.Shr.AllReadyF.cons 8 (o := { dst := some 82, op := Go.Op.call { callee := Go.Callee.value (Go.Operand.func 22), args := #[Go.Operand.tmp 77, Go.Operand.tmp 81], argTypes := #[48, 48] }, type := 4, pos := "more.go:112", after := #[{ on := 3, ground := Go.Ground.data }, { on := 7, ground := Go.Ground.data }], guard := none }) rfl (fun K hK => ?g15ro9) ?g15rm9
      case g15rm9 => exact Go.Shr.AllReadyF.nil
      go_simp; refine (same_all (_ + 1) _ _ (Nat.lt_succ_self _) ya za ycap zcap W (TrAt.below hb _ _ HTY.out) (TrAt.below hb _ _ HTZ'.out)).mono ?_; rintro e W8 ⟨rfl, hb8⟩; rw [HST.out]; dsimp only; (replace hb := bt hb hb8); clear hb8
      refine hK.out _ _ ?g15rs9 (fun hHeld => ?g15rt9)
      case g15rs9 => (try dsimp only); (first | exact HCC.out | exact ⟨⟨cb hb HCC.out.1.1, cb hb HCC.out.1.2.1, cb hb HCC.out.1.2.2⟩, cb hb HCC.out.2.1, cb hb HCC.out.2.2.1, cb hb HCC.out.2.2.2⟩)
      try dsimp only at hHeld
      clear hK K
      try simp only [Act.put, List.setIfInBounds_toArray, List.set_cons_zero, List.set_cons_succ]
      refine Go.Shr.wpAnyF_take 9 (oi := { dst := some 83, op := Go.Op.unOp Go.UnOp.not 4 (Go.Operand.tmp 82), type := 4, pos := "more.go:112", after := #[{ on := 8, ground := Go.Ground.data }], guard := none }) (v := ?g15rv10) rfl (by kernel_rfl) (fun _ _ _ h => h) (by assumption) (by rfl) ?g15ry10 ?g15rr10
      case g15ry10 => intro w hSw; obtain ⟨⟨s1, s2, s3⟩, s4, s5, s6⟩ := hSw; go_simp; try with_reducible rfl
      try simp only [Act.put, List.setIfInBounds_toArray, List.set_cons_zero, List.set_cons_succ]
      refine Go.Shr.wpAnyF_done (by kernel_rfl) ?_
      have HBF := Lib.hid (bt HB.out hb)
      clear hHeld hb
      go_wp2_with fail
      go_roundw
      case rel => exact ⟨j + 1, by go_num, by omega, HBF⟩
      case measure => simp [intOf]; omega
    · obtain rfl : j = V.length := by omega
      go_wp2_with fail
      go_ret
      exact ⟨rfl, bt HBB.out (bt HBX10.out HB.out)⟩
end Go.Proofs.Ytgpffcgkfgiodaa
