/-
  The walks of project.Tree, of the document's Tree.
-/
import Derived.Test.YtgpffcgkfgiodaaKeep7
import Derived.Deep.OwnRows
set_option linter.unusedSimpArgs false
namespace Go.Proofs.Ytgpffcgkfgiodaa
open Go.RowKit Go.Shr
theorem info_li7 : (Try.prog.info? 22).map (fun i => (i.zero, i.size, i.bytes)) = some (some (.slice none 0 0), 1, 24) := by kernel_rfl
set_option maxHeartbeats 2000000 in
set_option maxRecDepth 100000 in
theorem ptree_v {l : List Fl} {sh : Sh} (hS : Sch l sh) (f : Nat → Bool) (sa ka a : Option Addr) (sc kc cap : Nat) (t : Tr) (w : World) (hs : Sl (fun b => b < w.heap.size) w 4 sa l.length sc (fls l)) (hk : Sl (fun b => b < w.heap.size) w 1 ka l.length kc (bls f l.length))
    (ht : TrAt w t [.int .i64 t.n, .string t.s, .slice a t.kids.length cap]) (hok : okT sh t) :
    Calls Try.prog 23 #[.slice sa l.length sc, .slice ka l.length kc, .agg #[.int .i64 t.n, .string t.s, .slice a t.kids.length cap]] w (MakeQ (keptT f 0 sh t) w) := by
  obtain ⟨ii, hii, hz0i, hz1i, hz2i⟩ := info_parts info_i
  have hn : l.length ≤ 1000 := by rw [hS.len]; exact hS.size
  have hpos : 0 < l.length := by rw [hS.len]; cases sh; simp only [Sh.size]; omega
  have hPl : (par l).length = l.length := par_length l
  have hmk := fun w => run_make_row' (P := Try.prog) 76 22 (.slice none 0 0) 24 Try.underlying76 info_li7 rfl .i64 .i64 l.length (by omega) (by omega) w
  have HS := Lib.hid hs; have HK := Lib.hid hS.kids; have HKE := Lib.hid hk; have HT := Lib.hid ht; have HOK := Lib.hid hok; have HSC := Lib.hid hS
  have hpb : ((l.length : Int) == 0) = false := beq_eq_false_iff_ne.2 (by omega)
  have hlb : ((l.length : Int) != (l.length : Int)) = false := by simp
  clear hs hk ht hok hS
  go_enter Try.func23, Try.ntmps23
  go_upto_region 4 with fail
  obtain ⟨wA, hwA⟩ : ∃ wA, wA = ((((w.alloc (.cells #[.int .i64 t.n, .string t.s, .slice a t.kids.length cap] 48)).alloc (.cells #[.int .i64 0, .string ⟨#[]⟩, .slice none 0 0] 48)).alloc (.cells (madeCells #[.slice none 0 0] l.length) 22)).alloc (.cells #[.slice sa l.length sc, .slice ka l.length kc, .slice (some ⟨w.heap.size + 1 + 1, 0, none⟩) l.length l.length] 78)) := ⟨_, rfl⟩
  have hbA : Below w.heap.size w wA := Go.Shr.Below.ren hwA (ba (ba (ba (ba (b0 w) _) _) _) _)
  have rT := Rw.ren hwA ((((Rw.new w #[.int .i64 t.n, .string t.s, .slice a t.kids.length cap] 48).alloc (.cells #[.int .i64 0, .string ⟨#[]⟩, .slice none 0 0] 48)).alloc (.cells (madeCells #[.slice none 0 0] l.length) 22)).alloc (.cells #[.slice sa l.length sc, .slice ka l.length kc, .slice (some ⟨w.heap.size + 1 + 1, 0, none⟩) l.length l.length] 78))
  have rR : Rw wA (w.heap.size + 1) #[.int .i64 0, .string ⟨#[]⟩, .slice none 0 0] 48 := by rw [hwA]; exact ((Rw.new' (by simp)).alloc _).alloc _
  have rK : Rw wA (w.heap.size + 1 + 1) (madeCells #[.slice none 0 0] l.length) 22 := by rw [hwA]; exact (Rw.new' (by simp)).alloc _
  have r3 : Rw wA (w.heap.size + 1 + 1 + 1) #[.slice sa l.length sc, .slice ka l.length kc, .slice (some ⟨w.heap.size + 1 + 1, 0, none⟩) l.length l.length] 78 := by rw [hwA]; exact Rw.new' (by simp)
  rw [← hwA]
  have hszA : wA.heap.size = w.heap.size + 1 + 1 + 1 + 1 := by rw [hwA]; simp
  clear hwA
  have HSA := Lib.hid (slb HS.out hbA)
  obtain ⟨U, hU⟩ : ∃ U, U = w.heap.size + 1 + 1 := ⟨_, rfl⟩
  have hU1 : w.heap.size + 1 < U := by omega
  have hU2 : U + 1 < wA.heap.size := by omega
  rw [← hU] at r3 rK ⊢
  have RT := Lib.hid rT; have RR := Lib.hid rR; have R3 := Lib.hid r3; have RK := Lib.hid rK; have HBA := Lib.hid hbA
  clear rT rR r3 rK hU hbA hpb hlb
  go_wp2_with fail
  refine (par_v sa l.length sc l wA HSA.out hn HK.out).mono ?_
  rintro e w2 ⟨aP, cP, rfl, oP, hb2⟩
  have hsz2 := hb2.size
  have hsP := oP.sl
  have HP0 := Lib.hid (hsP.mono (ok' := fun k => k < w2.heap.size ∧ k ≠ U) (fun k hk h => ⟨hk, by have := h.1; omega⟩) (by decide))
  have R32 := Lib.hid (R3.out.below hb2)
  have rK2 := RK.out.below hb2
  have hKI : KI w2.heap.size w2 U l.length (madeCells #[.slice none 0 0] l.length) (fun _ => none) (fun _ => 0) (fun k => kidsOf ((par l).take 0) k) :=
    ⟨rK2, fun k hk => by rw [List.take_zero]; simp [kidsOf_nil, madeCells, hk, Nat.mod_one], fun k hk => by rw [List.take_zero]; exact Own.nil _ _ _ _, fun k g _ ⟨_, _, h⟩ => (by cases h), fun k j g _ _ _ ⟨_, _, h⟩ => (by cases h)⟩
  have HKI := Lib.hid hKI
  have HB2 := Lib.hid (bt HBA.out hb2)
  have RT2 := Lib.hid (RT.out.below hb2); have RR2 := Lib.hid (RR.out.below hb2)
  clear hb2 oP hsP rK2 hKI HSA R3 RK RT RR
  go_wp2_with fail
  go_loopw [31] (fun i wr => ∃ (j : Nat) (cur : Array Value) (aa : Nat → Option Addr) (cc : Nat → Nat), i = .int .i64 j ∧ j ≤ l.length ∧ Hid (KI w2.heap.size wr U l.length cur aa cc (fun k => kidsOf ((par l).take j) k)) ∧ Hid (Chg (fun k => k = U ∨ w2.heap.size ≤ k) w2 wr)) (fun i _ => l.length - (intOf i).toNat)
  case atStart => exact ⟨0, _, _, _, rfl, Nat.zero_le _, HKI, Lib.hid (Chg.refl _ _)⟩
  case round =>
    obtain ⟨j, cur, aa, cc, rfl, hj, HI, HC⟩ := hrel
    have hszr := HC.out.size
    by_cases hlt : j < l.length
    · obtain ⟨b, off, rfl, ⟨hb1, hb2⟩, hcc⟩ := HP0.out.pos (by omega)
      have e0 := hcc _ _ (ints_get (par l) j (by omega))
      replace e0 := HC.out.keep e0 (by omega)
      have hbd := par_bd l j (by omega)
      have HX : Hid ((par l).take (j + 1) = (par l).take j ++ [(par l)[j]'(by omega)]) := Lib.hid (List.take_succ_eq_append_getElem (by omega))
      generalize (par l)[j]'(by omega) = p at *
      clear hcc
      by_cases hp : 0 ≤ p
      · obtain ⟨q, rfl⟩ : ∃ q : Nat, p = (q : Int) := ⟨p.toNat, by omega⟩
        have hq : q < l.length := by omega
        have hr3 : Rw wr (U + 1) #[.slice sa l.length sc, .slice ka l.length kc, .slice (some ⟨U, 0, none⟩) l.length l.length] 78 := R32.out.chg HC.out (by omega)
        have hkq : wr.cell? ⟨U, q, none⟩ = some (.slice (aa q) (kidsOf ((par l).take j) q).length (cc q)) := (HI.out.row.cell q).trans (HI.out.at' q hq)
        have hkl : (kidsOf ((par l).take j) q).length ≤ 1000 := by have := kidsOf_len ((par l).take j) q; rw [List.length_take] at this; omega
        have HOQ := Lib.hid (HI.out.own q hq)
        generalize hKq : kidsOf ((par l).take j) (q : Int) = Kq at hkq hkl HOQ
        have HKQ := Lib.hid hKq; clear hKq
        go_wp2_with fail
        refine Go.Shr.wp_region_F (fun w' => Rw w' (U + 1) #[.slice sa l.length sc, .slice ka l.length kc, .slice (some ⟨U, 0, none⟩) l.length l.length] 78 ∧ w'.cell? ⟨U, q, none⟩ = some (.slice (aa q) Kq.length (cc q))) [16] (by kernel_rfl) ?g6rgS (fun hHeld => ?g6rgR)
        case g6rgS => (try dsimp only); (first | exact ⟨hr3.drew, hkq⟩ | exact ⟨hHeld.1.alloc _, cb (ba (b0 _) _) hHeld.2⟩ | exact ⟨hHeld.1.chg hc5 (by rintro ⟨_, h, _⟩; omega), hc5.keep hHeld.2 (by rintro ⟨_, h, _⟩; omega)⟩)
        try dsimp only at hHeld
        refine Go.Shr.wpAnyF_take 0 (oi := { dst := some 38, op := Go.Op.move (Go.Operand.tmp 7), type := 75, pos := "project.go:106", after := #[], guard := none }) (v := ?g6rv1) rfl (by kernel_rfl) (fun _ _ _ h => h) (by assumption) (by rfl) ?g6ry1 ?g6rr1
        case g6ry1 => intro wS hSw; (obtain ⟨g1, g2⟩ := hSw); (have q1 : wS.cell? ⟨U + 1, 2, none⟩ = some (.slice (some ⟨U, 0, none⟩) l.length l.length) := g1.cell 2); go_simp; try with_reducible rfl
        try simp only [Act.put, List.setIfInBounds_toArray, List.set_cons_zero, List.set_cons_succ]
        refine Go.Shr.wpAnyF_take 1 (oi := { dst := some 39, op := Go.Op.nilCheck (Go.Operand.tmp 38), type := 0, pos := "project.go:106", after := #[{ on := 0, ground := Go.Ground.data }], guard := none }) (v := ?g6rv2) rfl (by kernel_rfl) (fun _ _ _ h => h) (by assumption) (by rfl) ?g6ry2 ?g6rr2
        case g6ry2 => intro wS hSw; (obtain ⟨g1, g2⟩ := hSw); (have q1 : wS.cell? ⟨U + 1, 2, none⟩ = some (.slice (some ⟨U, 0, none⟩) l.length l.length) := g1.cell 2); go_simp; try with_reducible rfl
        try simp only [Act.put, List.setIfInBounds_toArray, List.set_cons_zero, List.set_cons_succ]
        refine Go.Shr.wpAnyF_take 2 (oi := { dst := some 40, op := Go.Op.fieldAddr 78 (Go.Operand.tmp 39) 2, type := 0, pos := "project.go:106", after := #[{ on := 1, ground := Go.Ground.data }], guard := none }) (v := ?g6rv3) rfl (by kernel_rfl) (fun _ _ _ h => h) (by assumption) (by rfl) ?g6ry3 ?g6rr3
        case g6ry3 => intro wS hSw; (obtain ⟨g1, g2⟩ := hSw); (have q1 : wS.cell? ⟨U + 1, 2, none⟩ = some (.slice (some ⟨U, 0, none⟩) l.length l.length) := g1.cell 2); go_simp; try with_reducible rfl
        try simp only [Act.put, List.setIfInBounds_toArray, List.set_cons_zero, List.set_cons_succ]
        refine Go.Shr.wpAnyF_take 3 (oi := { dst := some 41, op := Go.Op.load 76 (Go.Operand.tmp 40), type := 76, pos := "project.go:106", after := #[{ on := 2, ground := Go.Ground.data }], guard := none }) (v := ?g6rv4) rfl (by kernel_rfl) (fun _ _ _ h => h) (by assumption) (by rfl) ?g6ry4 ?g6rr4
        case g6ry4 => intro wS hSw; (obtain ⟨g1, g2⟩ := hSw); (have q1 : wS.cell? ⟨U + 1, 2, none⟩ = some (.slice (some ⟨U, 0, none⟩) l.length l.length) := g1.cell 2); go_simp; try with_reducible rfl
        try simp only [Act.put, List.setIfInBounds_toArray, List.set_cons_zero, List.set_cons_succ]
        refine Go.Shr.wpAnyF_take 4 (oi := { dst := some 42, op := Go.Op.move (Go.Operand.tmp 9), type := 3, pos := "project.go:106", after := #[], guard := none }) (v := ?g6rv5) rfl (by kernel_rfl) (fun _ _ _ h => h) (by assumption) (by rfl) ?g6ry5 ?g6rr5
        case g6ry5 => intro wS hSw; (obtain ⟨g1, g2⟩ := hSw); (have q1 : wS.cell? ⟨U + 1, 2, none⟩ = some (.slice (some ⟨U, 0, none⟩) l.length l.length) := g1.cell 2); go_simp; try with_reducible rfl
        try simp only [Act.put, List.setIfInBounds_toArray, List.set_cons_zero, List.set_cons_succ]
        refine Go.Shr.wpAnyF_take 5 (oi := { dst := some 43, op := Go.Op.move (Go.Operand.tmp 7), type := 75, pos := "project.go:106", after := #[], guard := none }) (v := ?g6rv6) rfl (by kernel_rfl) (fun _ _ _ h => h) (by assumption) (by rfl) ?g6ry6 ?g6rr6
        case g6ry6 => intro wS hSw; (obtain ⟨g1, g2⟩ := hSw); (have q1 : wS.cell? ⟨U + 1, 2, none⟩ = some (.slice (some ⟨U, 0, none⟩) l.length l.length) := g1.cell 2); go_simp; try with_reducible rfl
        try simp only [Act.put, List.setIfInBounds_toArray, List.set_cons_zero, List.set_cons_succ]
        refine Go.Shr.wpAnyF_take 6 (oi := { dst := some 44, op := Go.Op.nilCheck (Go.Operand.tmp 43), type := 0, pos := "project.go:106", after := #[{ on := 5, ground := Go.Ground.data }], guard := none }) (v := ?g6rv7) rfl (by kernel_rfl) (fun _ _ _ h => h) (by assumption) (by rfl) ?g6ry7 ?g6rr7
        case g6ry7 => intro wS hSw; (obtain ⟨g1, g2⟩ := hSw); (have q1 : wS.cell? ⟨U + 1, 2, none⟩ = some (.slice (some ⟨U, 0, none⟩) l.length l.length) := g1.cell 2); go_simp; try with_reducible rfl
        try simp only [Act.put, List.setIfInBounds_toArray, List.set_cons_zero, List.set_cons_succ]
        refine Go.Shr.wpAnyF_take 7 (oi := { dst := some 45, op := Go.Op.fieldAddr 78 (Go.Operand.tmp 44) 2, type := 0, pos := "project.go:106", after := #[{ on := 6, ground := Go.Ground.data }], guard := none }) (v := ?g6rv8) rfl (by kernel_rfl) (fun _ _ _ h => h) (by assumption) (by rfl) ?g6ry8 ?g6rr8
        case g6ry8 => intro wS hSw; (obtain ⟨g1, g2⟩ := hSw); (have q1 : wS.cell? ⟨U + 1, 2, none⟩ = some (.slice (some ⟨U, 0, none⟩) l.length l.length) := g1.cell 2); go_simp; try with_reducible rfl
        try simp only [Act.put, List.setIfInBounds_toArray, List.set_cons_zero, List.set_cons_succ]
        refine Go.Shr.wpAnyF_take 8 (oi := { dst := some 46, op := Go.Op.load 76 (Go.Operand.tmp 45), type := 76, pos := "project.go:106", after := #[{ on := 7, ground := Go.Ground.data }], guard := none }) (v := ?g6rv9) rfl (by kernel_rfl) (fun _ _ _ h => h) (by assumption) (by rfl) ?g6ry9 ?g6rr9
        case g6ry9 => intro wS hSw; (obtain ⟨g1, g2⟩ := hSw); (have q1 : wS.cell? ⟨U + 1, 2, none⟩ = some (.slice (some ⟨U, 0, none⟩) l.length l.length) := g1.cell 2); go_simp; try with_reducible rfl
        try simp only [Act.put, List.setIfInBounds_toArray, List.set_cons_zero, List.set_cons_succ]
        refine Go.Shr.wpAnyF_take 9 (oi := { dst := some 47, op := Go.Op.move (Go.Operand.tmp 9), type := 3, pos := "project.go:106", after := #[], guard := none }) (v := ?g6rv10) rfl (by kernel_rfl) (fun _ _ _ h => h) (by assumption) (by rfl) ?g6ry10 ?g6rr10
        case g6ry10 => intro wS hSw; (obtain ⟨g1, g2⟩ := hSw); (have q1 : wS.cell? ⟨U + 1, 2, none⟩ = some (.slice (some ⟨U, 0, none⟩) l.length l.length) := g1.cell 2); go_simp; try with_reducible rfl
        try simp only [Act.put, List.setIfInBounds_toArray, List.set_cons_zero, List.set_cons_succ]
        refine Go.Shr.wpAnyF_take 10 (oi := { dst := some 48, op := Go.Op.indexAddr 76 (Go.Operand.tmp 46) (Go.Operand.tmp 47), type := 0, pos := "project.go:106", after := #[{ on := 8, ground := Go.Ground.data }, { on := 9, ground := Go.Ground.data }], guard := none }) (v := ?g6rv11) rfl (by kernel_rfl) (fun _ _ _ h => h) (by assumption) (by rfl) ?g6ry11 ?g6rr11
        case g6ry11 => intro wS hSw; (obtain ⟨g1, g2⟩ := hSw); (have q1 : wS.cell? ⟨U + 1, 2, none⟩ = some (.slice (some ⟨U, 0, none⟩) l.length l.length) := g1.cell 2); go_simp; try with_reducible rfl
        try simp only [Act.put, List.setIfInBounds_toArray, List.set_cons_zero, List.set_cons_succ]
        refine Go.Shr.wpAnyF_take 11 (oi := { dst := some 49, op := Go.Op.load 22 (Go.Operand.tmp 48), type := 22, pos := "project.go:106", after := #[{ on := 10, ground := Go.Ground.data }], guard := none }) (v := ?g6rv12) rfl (by kernel_rfl) (fun _ _ _ h => h) (by assumption) (by rfl) ?g6ry12 ?g6rr12
        case g6ry12 => intro wS hSw; (obtain ⟨g1, g2⟩ := hSw); (have q1 : wS.cell? ⟨U + 1, 2, none⟩ = some (.slice (some ⟨U, 0, none⟩) l.length l.length) := g1.cell 2); go_simp; try with_reducible rfl
        try simp only [Act.put, List.setIfInBounds_toArray, List.set_cons_zero, List.set_cons_succ]
        refine Go.Shr.wpAnyF_take 12 (oi := { dst := some 50, op := Go.Op.move (Go.Operand.tmp 8), type := 3, pos := "project.go:106", after := #[], guard := none }) (v := ?g6rv13) rfl (by kernel_rfl) (fun _ _ _ h => h) (by assumption) (by rfl) ?g6ry13 ?g6rr13
        case g6ry13 => intro wS hSw; (obtain ⟨g1, g2⟩ := hSw); (have q1 : wS.cell? ⟨U + 1, 2, none⟩ = some (.slice (some ⟨U, 0, none⟩) l.length l.length) := g1.cell 2); go_simp; try with_reducible rfl
        try simp only [Act.put, List.setIfInBounds_toArray, List.set_cons_zero, List.set_cons_succ]
        refine Go.Shr.wpAnyF_ready [13] (by kernel_rfl) (by simp) ?_
        refine Go.Shr.AllReadyF.cons 13 (o := { dst := some 51, op := Go.Op.buildSlice 22 1 #[(0, Go.Operand.tmp 50)], type := 22, pos := "project.go:106", after := #[{ on := 12, ground := Go.Ground.data }], guard := none }) rfl (fun K hK => ?g6ro14) ?g6rm14
        case g6rm14 => exact Go.Shr.AllReadyF.nil
        go_simp
        refine hK.out _ _ ?g6rs14 (fun hHeld => ?g6rt14)
        case g6rs14 => (try dsimp only); (first | exact ⟨hr3.drew, hkq⟩ | exact ⟨hHeld.1.alloc _, cb (ba (b0 _) _) hHeld.2⟩ | exact ⟨hHeld.1.chg hc5 (by rintro ⟨_, h, _⟩; omega), hc5.keep hHeld.2 (by rintro ⟨_, h, _⟩; omega)⟩)
        try dsimp only at hHeld
        clear hK K
        try simp only [Act.put, List.setIfInBounds_toArray, List.set_cons_zero, List.set_cons_succ]
        refine Go.Shr.wpAnyF_ready [14] (by kernel_rfl) (by simp) ?_
        refine Go.Shr.AllReadyF.cons 14 (o := { dst := some 52, op := Go.Op.call { callee := Go.Callee.builtin Go.Builtin.append, args := #[Go.Operand.tmp 49, Go.Operand.tmp 51], argTypes := #[22, 22] }, type := 22, pos := "project.go:106", after := #[{ on := 11, ground := Go.Ground.data }, { on := 13, ground := Go.Ground.data }], guard := none }) rfl (fun K hK => ?g6ro15) ?g6rm15
        case g6rm15 => exact Go.Shr.AllReadyF.nil
        (refine step_append (B := w2.heap.size) rfl _ _ _ _ rfl ii (.int .i64 0) 8 Try.underlying22 hii hz0i hz1i hz2i rfl rfl (HOQ.out.drew.alloc _) _ rfl _ _ (src_rw (e' := 3) Try.underlying22 (cur := #[.int .i64 (j : Int)]) (t := 3) (by refine Rw.new' ?_; simp) 1 1 (by rfl) (by simp [Value.oneCell'])) (by simp only [maxLen]; omega) (by omega) (by first | omega | (simp; omega) | simp) ?_; intro a5 cap5 w5 ho5 hc5 hn5)
        refine hK.out _ _ ?g6rs15 (fun hHeld => ?g6rt15)
        case g6rs15 => (try dsimp only); (first | exact ⟨hr3.drew, hkq⟩ | exact ⟨hHeld.1.alloc _, cb (ba (b0 _) _) hHeld.2⟩ | exact ⟨hHeld.1.chg hc5 (by rintro ⟨_, h, _⟩; omega), hc5.keep hHeld.2 (by rintro ⟨_, h, _⟩; omega)⟩)
        try dsimp only at hHeld
        clear hK K
        try simp only [Act.put, List.setIfInBounds_toArray, List.set_cons_zero, List.set_cons_succ]
        refine Go.Shr.wpAnyF_take 15 (oi := { dst := some 53, op := Go.Op.indexAddr 76 (Go.Operand.tmp 41) (Go.Operand.tmp 42), type := 0, pos := "project.go:106", after := #[{ on := 3, ground := Go.Ground.data }, { on := 4, ground := Go.Ground.data }, { on := 0, ground := Go.Ground.phase }, { on := 1, ground := Go.Ground.phase }, { on := 2, ground := Go.Ground.phase }, { on := 3, ground := Go.Ground.phase }, { on := 4, ground := Go.Ground.phase }, { on := 5, ground := Go.Ground.phase }, { on := 6, ground := Go.Ground.phase }, { on := 7, ground := Go.Ground.phase }, { on := 8, ground := Go.Ground.phase }, { on := 9, ground := Go.Ground.phase }, { on := 10, ground := Go.Ground.phase }, { on := 11, ground := Go.Ground.phase }, { on := 12, ground := Go.Ground.phase }, { on := 13, ground := Go.Ground.phase }, { on := 14, ground := Go.Ground.phase }], guard := none }) (v := ?g6rv16) rfl (by kernel_rfl) (fun _ _ _ h => h) (by assumption) (by rfl) ?g6ry16 ?g6rr16
        case g6ry16 => intro wS hSw; (obtain ⟨g1, g2⟩ := hSw); (have q1 : wS.cell? ⟨U + 1, 2, none⟩ = some (.slice (some ⟨U, 0, none⟩) l.length l.length) := g1.cell 2); go_simp; try with_reducible rfl
        try simp only [Act.put, List.setIfInBounds_toArray, List.set_cons_zero, List.set_cons_succ]
        refine Go.Shr.wpAnyF_ready [16] (by kernel_rfl) (by simp) ?_
        refine Go.Shr.AllReadyF.last 16 (o := { dst := none, op := Go.Op.store 22 (Go.Operand.tmp 53) (Go.Operand.tmp 52), type := 0, pos := "project.go:106", after := #[{ on := 15, ground := Go.Ground.data }, { on := 14, ground := Go.Ground.data }, { on := 14, ground := Go.Ground.chain }, { on := 0, ground := Go.Ground.phase }, { on := 1, ground := Go.Ground.phase }, { on := 2, ground := Go.Ground.phase }, { on := 3, ground := Go.Ground.phase }, { on := 4, ground := Go.Ground.phase }, { on := 5, ground := Go.Ground.phase }, { on := 6, ground := Go.Ground.phase }, { on := 7, ground := Go.Ground.phase }, { on := 8, ground := Go.Ground.phase }, { on := 9, ground := Go.Ground.phase }, { on := 10, ground := Go.Ground.phase }, { on := 11, ground := Go.Ground.phase }, { on := 12, ground := Go.Ground.phase }, { on := 13, ground := Go.Ground.phase }, { on := 14, ground := Go.Ground.phase }], guard := none }) rfl (by kernel_rfl) (fun K hK => ?g6ro17) ?g6rm17
        case g6rm17 => exact Go.Shr.AllReadyF.nil
        (have q5 : w5.cell? ⟨U, q, none⟩ = some (.slice (aa q) Kq.length (cc q)) := hHeld.2); (have qrow : Rw w5 U cur 22 := ((HI.out.row.drew.alloc _).chg hc5 (by rintro ⟨_, h, _⟩; omega))); (have qf := qrow.frozen); (have ql := qrow.lt); go_simp
        refine hK.out _ _ ?_
        clear hK K
        try simp only [Act.put, List.setIfInBounds_toArray, List.set_cons_zero, List.set_cons_succ]
        refine Go.Shr.wpAnyF_done (by kernel_rfl) ?_
        have HKI5 := Lib.hid ((HI.out.below (((b0 wr).drew.alloc (by simp) (.cells #[.int .i64 (j : Int)] 3)))).push q hq (x := (j : Int)) (by omega) (by rw [HKQ.out, ints_snoc]; exact ho5) hc5 hn5)
        have HC5 := Lib.hid ((((HC.out.drew.alloc (.cells #[.int .i64 (j : Int)] 3)).trans hc5 (S' := fun k => blk (aa q) k ∧ w2.heap.size ≤ k ∧ 0 < cc q) (fun k _ h => .inr h.2.1))).setCell (p := ⟨U, q, none⟩) (.inr (.inl rfl)) (.slice a5 (Kq.length + 1) cap5))
        clear ho5 hc5 hn5 hHeld
        go_wp2_with fail
        go_roundw
        case rel =>
          have h := HKI5.out
          rw [HKQ.out] at h
          have e : (fun (k : Nat) => kidsOf ((par l).take (j + 1)) k) = fun k => if k = q then Kq ++ [(j : Int)] else kidsOf ((par l).take j) k := by
            funext k
            rw [HX.out, kidsOf_snoc, List.length_take, show min j (par l).length = j by omega]
            by_cases hk : k = q
            · subst hk; simp [HKQ.out]
            · have : ¬ ((q : Int) = (k : Int)) := by omega
              simp [hk, this]
          rw [← e] at h
          exact ⟨j + 1, _, _, _, by go_num, by omega, Lib.hid h, HC5⟩
        case measure => simp [intOf]; omega
      · have hpf : (decide (0 ≤ p)) = false := decide_eq_false hp
        have e : (fun (k : Nat) => kidsOf ((par l).take (j + 1)) k) = fun (k : Nat) => kidsOf ((par l).take j) k := by
          funext k
          rw [HX.out, kidsOf_snoc]
          have : ¬ (p = (k : Int)) := by omega
          simp [this]
        have HE := Lib.hid e; clear e
        clear hp
        go_wp2_with fail
        go_roundw
        case rel => exact ⟨j + 1, cur, aa, cc, by go_num, by omega, Lib.hid (by rw [HE.out]; exact HI.out), HC⟩
        case measure => simp [intOf]; omega
    · obtain rfl : j = l.length := by omega
      have hr3 : Rw wr (U + 1) #[.slice sa l.length sc, .slice ka l.length kc, .slice (some ⟨U, 0, none⟩) l.length l.length] 78 := R32.out.chg HC.out (by omega)
      have hB : Below w.heap.size w wr := Chg.bt HB2.out HC.out (fun i hi h => by omega)
      have hk := HI.out.kids
      rw [List.take_of_length_le (by omega)] at hk
      have HPT : Hid (PtAt wr (U + 1) l f) := Lib.hid ⟨sa, sc, ka, kc, U, hr3, slb HKE.out hB, hk⟩
      have rT := RT2.out.chg HC.out (by omega)
      have rR := RR2.out.chg HC.out (by omega)
      have t0 : wr.cell? ⟨w.heap.size, 0, none⟩ = some (.int .i64 t.n) := rT.cell 0
      have t1 : wr.cell? ⟨w.heap.size, 1, none⟩ = some (.string t.s) := rT.cell 1
      have t2 : wr.cell? ⟨w.heap.size, 2, none⟩ = some (.slice a t.kids.length cap) := rT.cell 2
      have HB := Lib.hid hB; have HRR := Lib.hid rR
      clear hlt hr3 hB hk rT rR
      go_wp2_with fail
      refine (keep_all l f hn 1000 sh HSC.out.size (Nat.le_refl _) 0 t (U + 1) a cap wr HSC.out.ix HSC.out.good HOK.out HPT.out (TrAt.below HB.out _ _ HT.out)).mono ?_
      rintro e w3 ⟨a3, m3, c3, rfl, ht3, hb3⟩
      generalize keptT f 0 sh t = r at *
      have HT3 := Lib.hid ht3
      have HB3 := Lib.hid (bt HB.out hb3)
      have rR3 := HRR.out.below hb3
      have hz3 := hb3.size
      have z0 : w3.cell? ⟨w.heap.size + 1, 0, none⟩ = some (.int .i64 0) := rR3.cell 0
      have z1 : w3.cell? ⟨w.heap.size + 1, 1, none⟩ = some (.string ⟨#[]⟩) := rR3.cell 1
      have z2 : w3.cell? ⟨w.heap.size + 1, 2, none⟩ = some (.slice none 0 0) := rR3.cell 2
      have zl := rR3.lt
      have zf := rR3.frozen
      clear ht3 hb3 rR3 t0 t1 t2
      go_wp2_with fail
      refine bodyPost_ret (v := .agg #[.int .i64 r.n, .string r.s, .slice a3 m3 c3]) (by simp [results, Try.results23, go_sem, z0, z1, z2]) rfl ?_
      have h2 : Chg (fun b => b = w.heap.size + 1) w3 (((w3.setCell ⟨w.heap.size + 1, 0, none⟩ (.int .i64 r.n)).setCell ⟨w.heap.size + 1, 1, none⟩ (.string r.s)).setCell ⟨w.heap.size + 1, 2, none⟩ (.slice a3 m3 c3)) := (((Chg.refl (fun b => b = w.heap.size + 1) w3).setCell (p := ⟨w.heap.size + 1, 0, none⟩) (.inr rfl) _).setCell (p := ⟨w.heap.size + 1, 1, none⟩) (.inr rfl) _).setCell (p := ⟨w.heap.size + 1, 2, none⟩) (.inr rfl) _
      exact ⟨a3, m3, c3, rfl, TrG.go h2 (fun b _ hb => ⟨by omega, by omega⟩) HT3.out, Chg.bt HB3.out h2 (fun b hb h => by have h' : b = w.heap.size + 1 := h; omega)⟩
set_option maxHeartbeats 1000000 in
theorem rtree_v {l : List Fl} {sh : Sh} (hS : Sch l sh) (f : Nat → Bool) (sa ka a : Option Addr) (sc kc cap : Nat) (t : Tr) (w : World) (hs : Sl (fun b => b < w.heap.size) w 4 sa l.length sc (fls l)) (hk : Sl (fun b => b < w.heap.size) w 1 ka l.length kc (bls f l.length))
    (ht : TrAt w t [.int .i64 t.n, .string t.s, .slice a t.kids.length cap]) (hok : okT sh t) :
    Calls Try.prog 24 #[.slice sa l.length sc, .slice ka l.length kc, .agg #[.int .i64 t.n, .string t.s, .slice a t.kids.length cap]] w (MakeQ (keptT f 0 sh t) w) := by
  have hn : l.length ≤ 1000 := by rw [hS.len]; exact hS.size
  have HS := Lib.hid hs; have HKE := Lib.hid hk; have HT := Lib.hid ht; have HOK := Lib.hid hok; have HSC := Lib.hid hS
  clear hs hk ht hok hS
  go_enter Try.func24, Try.ntmps24
  go_wp2_with fail
  obtain ⟨wA, hwA⟩ : ∃ wA, wA = (w.alloc (.cells #[.int .i64 t.n, .string t.s, .slice a t.kids.length cap] 48)).alloc (.cells #[.int .i64 0, .string ⟨#[]⟩, .slice none 0 0] 48) := ⟨_, rfl⟩
  have hbA : Below w.heap.size w wA := Go.Shr.Below.ren hwA (ba (ba (b0 w) _) _)
  have rT : Rw wA w.heap.size #[.int .i64 t.n, .string t.s, .slice a t.kids.length cap] 48 := by rw [hwA]; exact (Rw.new w _ _).alloc _
  have rR : Rw wA (w.heap.size + 1) #[.int .i64 0, .string ⟨#[]⟩, .slice none 0 0] 48 := by rw [hwA]; exact Rw.new' (by simp)
  rw [← hwA]
  clear hwA
  have HT2 := Lib.hid rT; have HR2 := Lib.hid rR; have HBA := Lib.hid hbA
  clear rT rR hbA
  have HPA := Lib.hid (part_all l f hn 1000 sh HSC.out.size (Nat.le_refl _))
  refine Go.Shr.wp_region_F (fun w' => w'.cell? ⟨w.heap.size, 0, none⟩ = some (.int .i64 t.n) ∧ w'.cell? ⟨w.heap.size, 1, none⟩ = some (.string t.s) ∧ w'.cell? ⟨w.heap.size, 2, none⟩ = some (.slice a t.kids.length cap)) [6] (by kernel_rfl) ?g7rgS (fun hHeld => ?g7rgR)
  case g7rgS => (try dsimp only); (first | exact ⟨HT2.out.cell 0, HT2.out.cell 1, HT2.out.cell 2⟩ | exact ⟨r5.cell 0, r5.cell 1, r5.cell 2⟩)
  try dsimp only at hHeld
  obtain ⟨W, hW⟩ : ∃ W, W = wA.drew := ⟨_, rfl⟩; rw [← hW] at hHeld ⊢; (have r5 := Rw.ren hW HT2.out.drew); (have r6 := Rw.ren hW HR2.out.drew); (have hb := Go.Shr.Below.ren hW HBA.out.drew); clear hW
  refine Go.Shr.wpAnyF_take 0 (oi := { dst := some 7, op := Go.Op.move (Go.Operand.tmp 0), type := 25, pos := "ref.go:97", after := #[], guard := none }) (v := ?g7rv1) rfl (by kernel_rfl) (fun _ _ _ h => h) (by assumption) (by rfl) ?g7ry1 ?g7rr1
  case g7ry1 => intro w hSw; obtain ⟨s1, s2, s3⟩ := hSw; go_simp; try with_reducible rfl
  try simp only [Act.put, List.setIfInBounds_toArray, List.set_cons_zero, List.set_cons_succ]
  refine Go.Shr.wpAnyF_take 1 (oi := { dst := some 8, op := Go.Op.move (Go.Operand.tmp 0), type := 25, pos := "ref.go:97", after := #[], guard := none }) (v := ?g7rv2) rfl (by kernel_rfl) (fun _ _ _ h => h) (by assumption) (by rfl) ?g7ry2 ?g7rr2
  case g7ry2 => intro w hSw; obtain ⟨s1, s2, s3⟩ := hSw; go_simp; try with_reducible rfl
  try simp only [Act.put, List.setIfInBounds_toArray, List.set_cons_zero, List.set_cons_succ]
  refine Go.Shr.wpAnyF_take 3 (oi := { dst := some 10, op := Go.Op.move (Go.Operand.tmp 1), type := 32, pos := "ref.go:97", after := #[], guard := none }) (v := ?g7rv3) rfl (by kernel_rfl) (fun _ _ _ h => h) (by assumption) (by rfl) ?g7ry3 ?g7rr3
  case g7ry3 => intro w hSw; obtain ⟨s1, s2, s3⟩ := hSw; go_simp; try with_reducible rfl
  try simp only [Act.put, List.setIfInBounds_toArray, List.set_cons_zero, List.set_cons_succ]
  refine Go.Shr.wpAnyF_take 4 (oi := { dst := some 11, op := Go.Op.load 48 (Go.Operand.tmp 5), type := 48, pos := "ref.go:97", after := #[], guard := none }) (v := ?g7rv4) rfl (by kernel_rfl) (fun _ _ _ h => h) (by assumption) (by rfl) ?g7ry4 ?g7rr4
  case g7ry4 => intro w hSw; obtain ⟨s1, s2, s3⟩ := hSw; go_simp; try with_reducible rfl
  try simp only [Act.put, List.setIfInBounds_toArray, List.set_cons_zero, List.set_cons_succ]
  refine Go.Shr.wpAnyF_ready [2] (by kernel_rfl) (by simp) ?_
  refine Go.Shr.AllReadyF.cons 2 (o := { dst := some 9, op := Go.Op.call { callee := Go.Callee.value (Go.Operand.func 16), args := #[Go.Operand.tmp 8], argTypes := #[25] }, type := 22, pos := "ref.go:97", after := #[{ on := 1, ground := Go.Ground.data }], guard := none }) rfl (fun K hK => ?g7ro5) ?g7rm5
  case g7rm5 => exact Go.Shr.AllReadyF.nil
  go_simp; refine (refpar_v sa l.length sc l _ (slb HS.out hb) hn HSC.out.kids).mono ?_; rintro e W2 ⟨aP, cP, rfl, hp, hb2⟩; dsimp only; (replace r5 := r5.below hb2); (replace r6 := r6.below hb2); (have HP := Lib.hid (hp.own.sl.mono (ok' := fun b => b < W2.heap.size) (fun k hk _ => hk) (by decide))); (replace hb := bt hb hb2); clear hp hb2
  refine hK.out _ _ ?g7rs5 (fun hHeld => ?g7rt5)
  case g7rs5 => (try dsimp only); (first | exact ⟨HT2.out.cell 0, HT2.out.cell 1, HT2.out.cell 2⟩ | exact ⟨r5.cell 0, r5.cell 1, r5.cell 2⟩)
  try dsimp only at hHeld
  clear hK K
  try simp only [Act.put, List.setIfInBounds_toArray, List.set_cons_zero, List.set_cons_succ]
  refine Go.Shr.wpAnyF_ready [5] (by kernel_rfl) (by simp) ?_
  refine Go.Shr.AllReadyF.cons 5 (o := { dst := some 12, op := Go.Op.call { callee := Go.Callee.value (Go.Operand.func 39), args := #[Go.Operand.tmp 7, Go.Operand.tmp 9, Go.Operand.tmp 10, Go.Operand.const (Go.Value.int Go.IntKind.i64 0), Go.Operand.tmp 11], argTypes := #[25, 22, 32, 3, 48] }, type := 48, pos := "ref.go:97", after := #[{ on := 0, ground := Go.Ground.data }, { on := 2, ground := Go.Ground.data }, { on := 3, ground := Go.Ground.data }, { on := 4, ground := Go.Ground.data }, { on := 2, ground := Go.Ground.chain }], guard := none }) rfl (fun K hK => ?g7ro6) ?g7rm6
  case g7rm6 => exact Go.Shr.AllReadyF.nil
  go_simp; refine (HPA.out 0 t _ _ _ _ _ _ _ _ W2 HSC.out.ix HSC.out.good HOK.out (slb HS.out hb) HP.out (slb HKE.out hb) (TrAt.below hb _ _ HT.out)).mono ?_; rintro e W5 ⟨a5, m5, c5, rfl, ht5, hb5⟩; dsimp only; (have hl6 := r6.lt); (replace r5 := r5.below hb5); (replace r6 := r6.below hb5); (have HT5 := Lib.hid ht5); (have hz5 := hb.size); (have hz6 := r6.lt); (replace hb := bt hb hb5); clear ht5 hb5
  refine hK.out _ _ ?g7rs6 (fun hHeld => ?g7rt6)
  case g7rs6 => (try dsimp only); (first | exact ⟨HT2.out.cell 0, HT2.out.cell 1, HT2.out.cell 2⟩ | exact ⟨r5.cell 0, r5.cell 1, r5.cell 2⟩)
  try dsimp only at hHeld
  clear hK K
  try simp only [Act.put, List.setIfInBounds_toArray, List.set_cons_zero, List.set_cons_succ]
  refine Go.Shr.wpAnyF_ready [6] (by kernel_rfl) (by simp) ?_
  refine Go.Shr.AllReadyF.last 6 (o := { dst := none, op := Go.Op.store 48 (Go.Operand.tmp 6) (Go.Operand.tmp 12), type := 0, pos := "ref.go:97", after := #[{ on := 5, ground := Go.Ground.data }, { on := 5, ground := Go.Ground.chain }, { on := 0, ground := Go.Ground.phase }, { on := 1, ground := Go.Ground.phase }, { on := 2, ground := Go.Ground.phase }, { on := 3, ground := Go.Ground.phase }, { on := 4, ground := Go.Ground.phase }, { on := 5, ground := Go.Ground.phase }], guard := none }) rfl (by kernel_rfl) (fun K hK => ?g7ro7) ?g7rm7
  case g7rm7 => exact Go.Shr.AllReadyF.nil
  (have z0 := r6.cell 0); (have z1 := r6.cell 1); (have z2 := r6.cell 2); (simp only [List.getElem?_toArray, List.getElem?_cons_zero, List.getElem?_cons_succ] at z0 z1 z2); (have qf := r6.frozen); (have ql := r6.lt); go_simp; clear z0 z1 z2 qf ql
  refine hK.out _ _ ?_
  clear hK K
  try simp only [Act.put, List.setIfInBounds_toArray, List.set_cons_zero, List.set_cons_succ]
  refine Go.Shr.wpAnyF_done (by kernel_rfl) ?_
  generalize keptT f 0 sh t = r at *
  have hq := r6.set3 (u0 := .int .i64 r.n) (u1 := .string r.s) (u2 := .slice a5 m5 c5)
  have z0 := hq.cell 0; have z1 := hq.cell 1; have z2 := hq.cell 2
  go_wp2_with fail
  refine bodyPost_ret (v := .agg #[.int .i64 r.n, .string r.s, .slice a5 m5 c5]) (by simp [results, Try.results24, go_sem, z0, z1, z2]) rfl ?_
  have h2 : Chg (fun b => b = w.heap.size + 1) W5 (((W5.setCell ⟨w.heap.size + 1, 0, none⟩ (.int .i64 r.n)).setCell ⟨w.heap.size + 1, 1, none⟩ (.string r.s)).setCell ⟨w.heap.size + 1, 2, none⟩ (.slice a5 m5 c5)) := (((Chg.refl (fun b => b = w.heap.size + 1) W5).setCell (p := ⟨w.heap.size + 1, 0, none⟩) (.inr rfl) _).setCell (p := ⟨w.heap.size + 1, 1, none⟩) (.inr rfl) _).setCell (p := ⟨w.heap.size + 1, 2, none⟩) (.inr rfl) _
  have hzz := HR2.out.lt
  exact ⟨a5, m5, c5, rfl, TrG.go h2 (fun b _ hb => ⟨by omega, by omega⟩) HT5.out, Chg.bt hb h2 (fun b hb h => by have h' : b = w.heap.size + 1 := h; omega)⟩
end Go.Proofs.Ytgpffcgkfgiodaa
