/-
  The walk of the document's Same of trees.
-/
import Derived.Test.YtgpffcgkfgiodaaSameP
import Derived.Test.YtgpffcgkfgiodaaTrG
import Derived.Test.YtgpffcgkfgiodaaSch1
set_option linter.unusedSimpArgs false
namespace Go.Proofs.Ytgpffcgkfgiodaa
open Go.RowKit Go.Shr
def SameTo (f : FuncId) (N : Nat) : Prop := ∀ (t u : Tr), t.size < N → ∀ (a b : Option Addr) (ca cb' : Nat) (w : World), TrAt w t [.int .i64 t.n, .string t.s, .slice a t.kids.length ca] → TrAt w u [.int .i64 u.n, .string u.s, .slice b u.kids.length cb'] →
  Calls Try.prog f #[.agg #[.int .i64 t.n, .string t.s, .slice a t.kids.length ca], .agg #[.int .i64 u.n, .string u.s, .slice b u.kids.length cb']] w fun e w' => e = .returned (.bool (sameT t u)) ∧ Below w.heap.size w w'
set_option maxHeartbeats 4000000 in
set_option maxRecDepth 100000 in
theorem same_step (N : Nat) (IH : SameTo 22 N) : SameTo 22 (N + 1) := by
  intro t u hN a b ca cb' w hT hU
  obtain ⟨_, _, _, xs, hcs, hm, hs, hsl, hk⟩ := hT.parts
  simp at hcs
  obtain ⟨rfl, rfl, rfl⟩ := hcs
  obtain ⟨_, _, _, ys, hcs, hm2, hs2, hsl2, hk2⟩ := hU.parts
  simp at hcs
  obtain ⟨rfl, rfl, rfl⟩ := hcs
  have hmx := Nat.le_trans hsl.le hsl.max
  have hmx2 := Nat.le_trans hsl2.le hsl2.max
  unfold maxLen at hmx hmx2
  have HSL := Lib.hid hsl; have HK := Lib.hid hk; have HSL2 := Lib.hid hsl2; have HK2 := Lib.hid hk2; have HIH := Lib.hid IH
  have HE := Lib.hid (sameT_eq t u)
  clear hsl hk hsl2 hk2 IH hT hU hm hm2
  go_enter Try.func22, Try.ntmps22
  go_wp2_with fail
  · rename_i h1 h2 h3
    go_ret
    exact ⟨ret_bo (by rw [HE.out, sameK_len (by intro h; simp [h] at h3)]; simp), by repeat (first | with_reducible exact Below.refl _ _ | refine ba ?_ _)⟩
  rotate_left
  · rename_i h1 h2
    go_ret
    exact ⟨ret_bo (by rw [HE.out]; simp [h2]), by repeat (first | with_reducible exact Below.refl _ _ | refine ba ?_ _)⟩
  · rename_i h1
    go_ret
    exact ⟨ret_bo (by rw [HE.out]; simp [h1]), by repeat (first | with_reducible exact Below.refl _ _ | refine ba ?_ _)⟩
  rename t.n = u.n => h1
  rename t.s.toList = u.s.toList => h2
  rename ((t.kids.length : Int) != (u.kids.length : Int)) = false => h3
  have hle : t.kids.length = u.kids.length := by simp at h3; omega
  have HE2 : Hid (sameT t u = sameK (t.kids.drop 0) (u.kids.drop 0)) := Lib.hid (by rw [HE.out]; simp [h1, h2])
  have HLE := Lib.hid hle
  clear h1 h2 h3 HE hle
  go_loopw [5] (fun iv wr => ∃ j : Nat, iv = .int .i64 (j : Int) ∧ j ≤ t.kids.length ∧ Hid (sameT t u = sameK (t.kids.drop j) (u.kids.drop j)) ∧ Hid (Below w.heap.size w wr) ∧ Hid (wr.cell? ⟨w.heap.size, 2, none⟩ = some (.slice a t.kids.length ca)) ∧ Hid (wr.cell? ⟨w.heap.size + 1, 2, none⟩ = some (.slice b u.kids.length cb'))) (fun iv _ => t.kids.length - (intOf iv).toNat)
  case atStart => exact ⟨0, rfl, Nat.zero_le _, HE2, Lib.hid (ba (ba (b0 w) _) _), Lib.hid (((Rw.new w _ _).alloc _).cell 2), Lib.hid ((Rw.new' (b := w.heap.size + 1) (by simp)).cell 2)⟩
  case round =>
    clear HE2
    obtain ⟨j, rfl, hj, HE, HB, HZ1, HZ2⟩ := hrel
    have z1 := HZ1.out
    have z2 := HZ2.out
    by_cases hlt : j < t.kids.length
    · have hlt2 : j < u.kids.length := by have := HLE.out; omega
      obtain ⟨xb, xoff, rfl, hxb, hxc⟩ := HSL.out.pos (by omega)
      obtain ⟨la, lcap, ls, g0, hys, hrow⟩ := HK.out.get j hlt
      obtain ⟨xb2, xoff2, rfl, hxb2, hxc2⟩ := HSL2.out.pos (by omega)
      obtain ⟨la2, lcap2, ls2, g02, hys2, hrow2⟩ := HK2.out.get j hlt2
      have g0w := hxc _ _ g0
      have g0w2 := hxc2 _ _ g02
      replace g0 := cb HB.out g0w
      replace g02 := cb HB.out g0w2
      have HD := Lib.hid (sameK_drop t.kids u.kids j hlt hlt2)
      have hmem : ∀ y ∈ t.kids[j], y.size < N := fun y hy => by have := kid_size (List.getElem_mem hlt) hy; omega
      have hmy := Nat.le_trans hys.le hys.max
      have hmy2 := Nat.le_trans hys2.le hys2.max
      unfold maxLen at hmy hmy2
      generalize t.kids[j] = l at *
      generalize u.kids[j] = l2 at *
      have HG0 := Lib.hid g0w; have HG02 := Lib.hid g0w2
      have HYS := Lib.hid hys; have HROW := Lib.hid hrow; have HYS2 := Lib.hid hys2; have HROW2 := Lib.hid hrow2; have HMEM := Lib.hid hmem
      clear hxc hys hrow g0w hxc2 hys2 hrow2 g0w2 hmem
      have hjt : (j : Int) < (t.kids.length : Int) := by omega
      have hju : (j : Int) < (u.kids.length : Int) := by omega
      have hj0 : (0 : Int) ≤ (j : Int) := by omega
      have HC := Lib.hid (And.intro z1 (And.intro z2 (And.intro g0 g02)))
      by_cases hll : l.length = l2.length
      · have hlb : ((l.length : Int) != (l2.length : Int)) = false := by simp [hll]
        have HLL := Lib.hid hll
        have HE2 : Hid (sameT t u = (sameL (l.drop 0) (l2.drop 0) && sameK (t.kids.drop (j + 1)) (u.kids.drop (j + 1)))) := Lib.hid (by rw [HE.out, HD.out]; rfl)
        clear hll
        go_wp2_with fail
        refine Go.Shr.wp_region_F (fun w' => w'.cell? ⟨w.heap.size, 2, none⟩ = some (.slice (some ⟨xb, xoff, none⟩) t.kids.length ca) ∧ w'.cell? ⟨w.heap.size + 1, 2, none⟩ = some (.slice (some ⟨xb2, xoff2, none⟩) u.kids.length cb') ∧ w'.cell? ⟨xb, xoff + j, none⟩ = some (.slice la l.length lcap) ∧ w'.cell? ⟨xb2, xoff2 + j, none⟩ = some (.slice la2 l2.length lcap2)) [12] (by kernel_rfl) ?g7rgS (fun hHeld => ?g7rgR)
        case g7rgS => (try dsimp only); (exact HC.out)
        try dsimp only at hHeld
        refine Go.Shr.wpAnyF_take 0 (oi := { dst := some 35, op := Go.Op.fieldAddr 48 (Go.Operand.tmp 2) 2, type := 0, pos := "ref.go:73", after := #[], guard := none }) (v := ?g7rv1) rfl (by kernel_rfl) (fun _ _ _ h => h) (by assumption) (by rfl) ?g7ry1 ?g7rr1
        case g7ry1 => intro w hSw; obtain ⟨s1, s2, s3, s4⟩ := hSw; go_simp; try with_reducible rfl
        try simp only [Act.put, List.setIfInBounds_toArray, List.set_cons_zero, List.set_cons_succ]
        refine Go.Shr.wpAnyF_take 1 (oi := { dst := some 36, op := Go.Op.load 46 (Go.Operand.tmp 35), type := 46, pos := "ref.go:73", after := #[{ on := 0, ground := Go.Ground.data }], guard := none }) (v := ?g7rv2) rfl (by kernel_rfl) (fun _ _ _ h => h) (by assumption) (by rfl) ?g7ry2 ?g7rr2
        case g7ry2 => intro w hSw; obtain ⟨s1, s2, s3, s4⟩ := hSw; go_simp; try with_reducible rfl
        try simp only [Act.put, List.setIfInBounds_toArray, List.set_cons_zero, List.set_cons_succ]
        refine Go.Shr.wpAnyF_take 2 (oi := { dst := some 37, op := Go.Op.move (Go.Operand.tmp 5), type := 3, pos := "ref.go:73", after := #[], guard := none }) (v := ?g7rv3) rfl (by kernel_rfl) (fun _ _ _ h => h) (by assumption) (by rfl) ?g7ry3 ?g7rr3
        case g7ry3 => intro w hSw; obtain ⟨s1, s2, s3, s4⟩ := hSw; go_simp; try with_reducible rfl
        try simp only [Act.put, List.setIfInBounds_toArray, List.set_cons_zero, List.set_cons_succ]
        refine Go.Shr.wpAnyF_take 3 (oi := { dst := some 38, op := Go.Op.indexAddr 46 (Go.Operand.tmp 36) (Go.Operand.tmp 37), type := 0, pos := "ref.go:73", after := #[{ on := 1, ground := Go.Ground.data }, { on := 2, ground := Go.Ground.data }], guard := none }) (v := ?g7rv4) rfl (by kernel_rfl) (fun _ _ _ h => h) (by assumption) (by rfl) ?g7ry4 ?g7rr4
        case g7ry4 => intro w hSw; obtain ⟨s1, s2, s3, s4⟩ := hSw; go_simp; try with_reducible rfl
        try simp only [Act.put, List.setIfInBounds_toArray, List.set_cons_zero, List.set_cons_succ]
        refine Go.Shr.wpAnyF_take 4 (oi := { dst := some 39, op := Go.Op.load 60 (Go.Operand.tmp 38), type := 60, pos := "ref.go:73", after := #[{ on := 3, ground := Go.Ground.data }], guard := none }) (v := ?g7rv5) rfl (by kernel_rfl) (fun _ _ _ h => h) (by assumption) (by rfl) ?g7ry5 ?g7rr5
        case g7ry5 => intro w hSw; obtain ⟨s1, s2, s3, s4⟩ := hSw; go_simp; try with_reducible rfl
        try simp only [Act.put, List.setIfInBounds_toArray, List.set_cons_zero, List.set_cons_succ]
        refine Go.Shr.wpAnyF_take 5 (oi := { dst := some 40, op := Go.Op.call { callee := Go.Callee.builtin Go.Builtin.len, args := #[Go.Operand.tmp 39], argTypes := #[60] }, type := 3, pos := "ref.go:73", after := #[{ on := 4, ground := Go.Ground.data }], guard := none }) (v := ?g7rv6) rfl (by kernel_rfl) (fun _ _ _ h => h) (by assumption) (by rfl) ?g7ry6 ?g7rr6
        case g7ry6 => intro w hSw; obtain ⟨s1, s2, s3, s4⟩ := hSw; go_simp; try with_reducible rfl
        try simp only [Act.put, List.setIfInBounds_toArray, List.set_cons_zero, List.set_cons_succ]
        refine Go.Shr.wpAnyF_take 6 (oi := { dst := some 41, op := Go.Op.fieldAddr 48 (Go.Operand.tmp 3) 2, type := 0, pos := "ref.go:73", after := #[], guard := none }) (v := ?g7rv7) rfl (by kernel_rfl) (fun _ _ _ h => h) (by assumption) (by rfl) ?g7ry7 ?g7rr7
        case g7ry7 => intro w hSw; obtain ⟨s1, s2, s3, s4⟩ := hSw; go_simp; try with_reducible rfl
        try simp only [Act.put, List.setIfInBounds_toArray, List.set_cons_zero, List.set_cons_succ]
        refine Go.Shr.wpAnyF_take 7 (oi := { dst := some 42, op := Go.Op.load 46 (Go.Operand.tmp 41), type := 46, pos := "ref.go:73", after := #[{ on := 6, ground := Go.Ground.data }], guard := none }) (v := ?g7rv8) rfl (by kernel_rfl) (fun _ _ _ h => h) (by assumption) (by rfl) ?g7ry8 ?g7rr8
        case g7ry8 => intro w hSw; obtain ⟨s1, s2, s3, s4⟩ := hSw; go_simp; try with_reducible rfl
        try simp only [Act.put, List.setIfInBounds_toArray, List.set_cons_zero, List.set_cons_succ]
        refine Go.Shr.wpAnyF_take 8 (oi := { dst := some 43, op := Go.Op.move (Go.Operand.tmp 5), type := 3, pos := "ref.go:73", after := #[], guard := none }) (v := ?g7rv9) rfl (by kernel_rfl) (fun _ _ _ h => h) (by assumption) (by rfl) ?g7ry9 ?g7rr9
        case g7ry9 => intro w hSw; obtain ⟨s1, s2, s3, s4⟩ := hSw; go_simp; try with_reducible rfl
        try simp only [Act.put, List.setIfInBounds_toArray, List.set_cons_zero, List.set_cons_succ]
        refine Go.Shr.wpAnyF_take 9 (oi := { dst := some 44, op := Go.Op.indexAddr 46 (Go.Operand.tmp 42) (Go.Operand.tmp 43), type := 0, pos := "ref.go:73", after := #[{ on := 7, ground := Go.Ground.data }, { on := 8, ground := Go.Ground.data }], guard := none }) (v := ?g7rv10) rfl (by kernel_rfl) (fun _ _ _ h => h) (by assumption) (by rfl) ?g7ry10 ?g7rr10
        case g7ry10 => intro w hSw; obtain ⟨s1, s2, s3, s4⟩ := hSw; go_simp; try with_reducible rfl
        try simp only [Act.put, List.setIfInBounds_toArray, List.set_cons_zero, List.set_cons_succ]
        refine Go.Shr.wpAnyF_take 10 (oi := { dst := some 45, op := Go.Op.load 60 (Go.Operand.tmp 44), type := 60, pos := "ref.go:73", after := #[{ on := 9, ground := Go.Ground.data }], guard := none }) (v := ?g7rv11) rfl (by kernel_rfl) (fun _ _ _ h => h) (by assumption) (by rfl) ?g7ry11 ?g7rr11
        case g7ry11 => intro w hSw; obtain ⟨s1, s2, s3, s4⟩ := hSw; go_simp; try with_reducible rfl
        try simp only [Act.put, List.setIfInBounds_toArray, List.set_cons_zero, List.set_cons_succ]
        refine Go.Shr.wpAnyF_take 11 (oi := { dst := some 46, op := Go.Op.call { callee := Go.Callee.builtin Go.Builtin.len, args := #[Go.Operand.tmp 45], argTypes := #[60] }, type := 3, pos := "ref.go:73", after := #[{ on := 10, ground := Go.Ground.data }], guard := none }) (v := ?g7rv12) rfl (by kernel_rfl) (fun _ _ _ h => h) (by assumption) (by rfl) ?g7ry12 ?g7rr12
        case g7ry12 => intro w hSw; obtain ⟨s1, s2, s3, s4⟩ := hSw; go_simp; try with_reducible rfl
        try simp only [Act.put, List.setIfInBounds_toArray, List.set_cons_zero, List.set_cons_succ]
        refine Go.Shr.wpAnyF_ready [12] (by kernel_rfl) (by simp) ?_
        refine Go.Shr.AllReadyF.last 12 (o := { dst := some 47, op := Go.Op.binOp Go.BinOp.neq 3 (Go.Operand.tmp 40) (Go.Operand.tmp 46) 3, type := 4, pos := "ref.go:73", after := #[{ on := 5, ground := Go.Ground.data }, { on := 11, ground := Go.Ground.data }], guard := none }) rfl (by kernel_rfl) (fun K hK => ?g7ro13) ?g7rm13
        case g7rm13 => exact Go.Shr.AllReadyF.nil
        go_simp
        refine hK.out _ _ ?_
        clear hK K
        try simp only [Act.put, List.setIfInBounds_toArray, List.set_cons_zero, List.set_cons_succ]
        refine Go.Shr.wpAnyF_done (by kernel_rfl) ?_
        clear hHeld
        go_wp2_with fail
        have HB' := Lib.hid (HB.out.drew)
        obtain ⟨wo, rfl⟩ : ∃ wo : World, wo = wr := ⟨_, rfl⟩
        clear hlb
        go_loopw [6] (fun iv wr => ∃ k : Nat, iv = .int .i64 (k : Int) ∧ k ≤ l.length ∧ Hid (sameT t u = (sameL (l.drop k) (l2.drop k) && sameK (t.kids.drop (j + 1)) (u.kids.drop (j + 1)))) ∧ Hid (Below w.heap.size w wr) ∧ Hid (wr.cell? ⟨w.heap.size, 2, none⟩ = some (.slice (some ⟨xb, xoff, none⟩) t.kids.length ca)) ∧ Hid (wr.cell? ⟨w.heap.size + 1, 2, none⟩ = some (.slice (some ⟨xb2, xoff2, none⟩) u.kids.length cb'))) (fun iv _ => l.length - (intOf iv).toNat)
        case atStart => exact ⟨0, rfl, Nat.zero_le _, HE2, HB', HZ1, HZ2⟩
        case round =>
          clear z1 z2 g0 g02 HE2
          obtain ⟨k, rfl, hk, HE3, HB3, HZ3, HZ4⟩ := hrel
          have z1 := HZ3.out
          have z2 := HZ4.out
          have g0 := cb HB3.out HG0.out
          have g02 := cb HB3.out HG02.out
          by_cases hkl : k < l.length
          · have hkl2 : k < l2.length := by have := HLL.out; omega
            obtain ⟨yb, yoff, rfl, hyb, hyc⟩ := HYS.out.pos (by omega)
            obtain ⟨ka, _, kcap, kxs, v0, v1, v2, rfl, hks, hsl, hkid⟩ := HROW.out.get k hkl
            have hTk : TrAt w l[k] [.int .i64 l[k].n, .string l[k].s, .slice ka l[k].kids.length kcap] := TrAt.mk' hks hsl hkid
            obtain ⟨yb2, yoff2, rfl, hyb2, hyc2⟩ := HYS2.out.pos (by omega)
            obtain ⟨ka2, _, kcap2, kxs2, x0, x1, x2, rfl, hks2, hsl2, hkid2⟩ := HROW2.out.get k hkl2
            have hTk2 : TrAt w l2[k] [.int .i64 l2[k].n, .string l2[k].s, .slice ka2 l2[k].kids.length kcap2] := TrAt.mk' hks2 hsl2 hkid2
            replace v0 := cb HB3.out (hyc _ _ v0); replace v1 := cb HB3.out (hyc _ _ v1); replace v2 := cb HB3.out (hyc _ _ v2)
            replace x0 := cb HB3.out (hyc2 _ _ x0); replace x1 := cb HB3.out (hyc2 _ _ x1); replace x2 := cb HB3.out (hyc2 _ _ x2)
            rw [← Nat.add_assoc] at v1 v2 x1 x2
            have HDL := Lib.hid (sameL_drop l l2 k hkl hkl2)
            have hsz3 : l[k].size < N := HMEM.out _ (List.getElem_mem hkl)
            have HT := Lib.hid hTk; have HT2 := Lib.hid hTk2
            generalize l[k] = p at *
            generalize l2[k] = q at *
            clear hyc hks hsl hkid hTk hyc2 hks2 hsl2 hkid2 hTk2
            have hkt : (k : Int) < (l.length : Int) := by omega
            have hku : (k : Int) < (l2.length : Int) := by omega
            have hk0 : (0 : Int) ≤ (k : Int) := by omega
            have HC2 := Lib.hid (And.intro z1 (And.intro z2 (And.intro g0 (And.intro g02 (And.intro v0 (And.intro v1 (And.intro v2 (And.intro x0 (And.intro x1 x2)))))))))
            go_wp2_with fail
            refine Go.Shr.wp_region_F (fun w' => w'.cell? ⟨w.heap.size, 2, none⟩ = some (.slice (some ⟨xb, xoff, none⟩) t.kids.length ca) ∧ w'.cell? ⟨w.heap.size + 1, 2, none⟩ = some (.slice (some ⟨xb2, xoff2, none⟩) u.kids.length cb') ∧ w'.cell? ⟨xb, xoff + j, none⟩ = some (.slice (some ⟨yb, yoff, none⟩) l.length lcap) ∧ w'.cell? ⟨xb2, xoff2 + j, none⟩ = some (.slice (some ⟨yb2, yoff2, none⟩) l2.length lcap2) ∧ w'.cell? ⟨yb, yoff + k * 3, none⟩ = some (.int .i64 p.n) ∧ w'.cell? ⟨yb, yoff + k * 3 + 1, none⟩ = some (.string p.s) ∧ w'.cell? ⟨yb, yoff + k * 3 + 2, none⟩ = some (.slice ka p.kids.length kcap) ∧ w'.cell? ⟨yb2, yoff2 + k * 3, none⟩ = some (.int .i64 q.n) ∧ w'.cell? ⟨yb2, yoff2 + k * 3 + 1, none⟩ = some (.string q.s) ∧ w'.cell? ⟨yb2, yoff2 + k * 3 + 2, none⟩ = some (.slice ka2 q.kids.length kcap2)) [] (by kernel_rfl) ?g8rgS (fun hHeld => ?g8rgR)
            case g8rgS => (try dsimp only); (first | exact HC2.out | (have hh := HC2.out; exact ⟨cb HB4.out hh.1, cb HB4.out hh.2.1, cb HB4.out hh.2.2.1, cb HB4.out hh.2.2.2.1, cb HB4.out hh.2.2.2.2.1, cb HB4.out hh.2.2.2.2.2.1, cb HB4.out hh.2.2.2.2.2.2.1, cb HB4.out hh.2.2.2.2.2.2.2.1, cb HB4.out hh.2.2.2.2.2.2.2.2.1, cb HB4.out hh.2.2.2.2.2.2.2.2.2⟩))
            try dsimp only at hHeld
            refine Go.Shr.wpAnyF_take 0 (oi := { dst := some 58, op := Go.Op.fieldAddr 48 (Go.Operand.tmp 2) 2, type := 0, pos := "ref.go:77", after := #[], guard := none }) (v := ?g8rv1) rfl (by kernel_rfl) (fun _ _ _ h => h) (by assumption) (by rfl) ?g8ry1 ?g8rr1
            case g8ry1 => intro w hSw; obtain ⟨s1, s2, s3, s4, s5, s6, s7, s8, s9, s10⟩ := hSw; go_simp; try with_reducible rfl
            try simp only [Act.put, List.setIfInBounds_toArray, List.set_cons_zero, List.set_cons_succ]
            refine Go.Shr.wpAnyF_take 1 (oi := { dst := some 59, op := Go.Op.load 46 (Go.Operand.tmp 58), type := 46, pos := "ref.go:77", after := #[{ on := 0, ground := Go.Ground.data }], guard := none }) (v := ?g8rv2) rfl (by kernel_rfl) (fun _ _ _ h => h) (by assumption) (by rfl) ?g8ry2 ?g8rr2
            case g8ry2 => intro w hSw; obtain ⟨s1, s2, s3, s4, s5, s6, s7, s8, s9, s10⟩ := hSw; go_simp; try with_reducible rfl
            try simp only [Act.put, List.setIfInBounds_toArray, List.set_cons_zero, List.set_cons_succ]
            refine Go.Shr.wpAnyF_take 2 (oi := { dst := some 60, op := Go.Op.move (Go.Operand.tmp 5), type := 3, pos := "ref.go:77", after := #[], guard := none }) (v := ?g8rv3) rfl (by kernel_rfl) (fun _ _ _ h => h) (by assumption) (by rfl) ?g8ry3 ?g8rr3
            case g8ry3 => intro w hSw; obtain ⟨s1, s2, s3, s4, s5, s6, s7, s8, s9, s10⟩ := hSw; go_simp; try with_reducible rfl
            try simp only [Act.put, List.setIfInBounds_toArray, List.set_cons_zero, List.set_cons_succ]
            refine Go.Shr.wpAnyF_take 3 (oi := { dst := some 61, op := Go.Op.indexAddr 46 (Go.Operand.tmp 59) (Go.Operand.tmp 60), type := 0, pos := "ref.go:77", after := #[{ on := 1, ground := Go.Ground.data }, { on := 2, ground := Go.Ground.data }], guard := none }) (v := ?g8rv4) rfl (by kernel_rfl) (fun _ _ _ h => h) (by assumption) (by rfl) ?g8ry4 ?g8rr4
            case g8ry4 => intro w hSw; obtain ⟨s1, s2, s3, s4, s5, s6, s7, s8, s9, s10⟩ := hSw; go_simp; try with_reducible rfl
            try simp only [Act.put, List.setIfInBounds_toArray, List.set_cons_zero, List.set_cons_succ]
            refine Go.Shr.wpAnyF_take 4 (oi := { dst := some 62, op := Go.Op.load 60 (Go.Operand.tmp 61), type := 60, pos := "ref.go:77", after := #[{ on := 3, ground := Go.Ground.data }], guard := none }) (v := ?g8rv5) rfl (by kernel_rfl) (fun _ _ _ h => h) (by assumption) (by rfl) ?g8ry5 ?g8rr5
            case g8ry5 => intro w hSw; obtain ⟨s1, s2, s3, s4, s5, s6, s7, s8, s9, s10⟩ := hSw; go_simp; try with_reducible rfl
            try simp only [Act.put, List.setIfInBounds_toArray, List.set_cons_zero, List.set_cons_succ]
            refine Go.Shr.wpAnyF_take 5 (oi := { dst := some 63, op := Go.Op.move (Go.Operand.tmp 6), type := 3, pos := "ref.go:77", after := #[], guard := none }) (v := ?g8rv6) rfl (by kernel_rfl) (fun _ _ _ h => h) (by assumption) (by rfl) ?g8ry6 ?g8rr6
            case g8ry6 => intro w hSw; obtain ⟨s1, s2, s3, s4, s5, s6, s7, s8, s9, s10⟩ := hSw; go_simp; try with_reducible rfl
            try simp only [Act.put, List.setIfInBounds_toArray, List.set_cons_zero, List.set_cons_succ]
            refine Go.Shr.wpAnyF_take 6 (oi := { dst := some 64, op := Go.Op.indexAddr 60 (Go.Operand.tmp 62) (Go.Operand.tmp 63), type := 0, pos := "ref.go:77", after := #[{ on := 4, ground := Go.Ground.data }, { on := 5, ground := Go.Ground.data }], guard := none }) (v := ?g8rv7) rfl (by kernel_rfl) (fun _ _ _ h => h) (by assumption) (by rfl) ?g8ry7 ?g8rr7
            case g8ry7 => intro w hSw; obtain ⟨s1, s2, s3, s4, s5, s6, s7, s8, s9, s10⟩ := hSw; go_simp; try with_reducible rfl
            try simp only [Act.put, List.setIfInBounds_toArray, List.set_cons_zero, List.set_cons_succ]
            refine Go.Shr.wpAnyF_take 7 (oi := { dst := some 65, op := Go.Op.load 48 (Go.Operand.tmp 64), type := 48, pos := "ref.go:77", after := #[{ on := 6, ground := Go.Ground.data }], guard := none }) (v := ?g8rv8) rfl (by kernel_rfl) (fun _ _ _ h => h) (by assumption) (by rfl) ?g8ry8 ?g8rr8
            case g8ry8 => intro w hSw; obtain ⟨s1, s2, s3, s4, s5, s6, s7, s8, s9, s10⟩ := hSw; go_simp; try with_reducible rfl
            try simp only [Act.put, List.setIfInBounds_toArray, List.set_cons_zero, List.set_cons_succ]
            refine Go.Shr.wpAnyF_take 8 (oi := { dst := some 66, op := Go.Op.fieldAddr 48 (Go.Operand.tmp 3) 2, type := 0, pos := "ref.go:77", after := #[], guard := none }) (v := ?g8rv9) rfl (by kernel_rfl) (fun _ _ _ h => h) (by assumption) (by rfl) ?g8ry9 ?g8rr9
            case g8ry9 => intro w hSw; obtain ⟨s1, s2, s3, s4, s5, s6, s7, s8, s9, s10⟩ := hSw; go_simp; try with_reducible rfl
            try simp only [Act.put, List.setIfInBounds_toArray, List.set_cons_zero, List.set_cons_succ]
            refine Go.Shr.wpAnyF_take 9 (oi := { dst := some 67, op := Go.Op.load 46 (Go.Operand.tmp 66), type := 46, pos := "ref.go:77", after := #[{ on := 8, ground := Go.Ground.data }], guard := none }) (v := ?g8rv10) rfl (by kernel_rfl) (fun _ _ _ h => h) (by assumption) (by rfl) ?g8ry10 ?g8rr10
            case g8ry10 => intro w hSw; obtain ⟨s1, s2, s3, s4, s5, s6, s7, s8, s9, s10⟩ := hSw; go_simp; try with_reducible rfl
            try simp only [Act.put, List.setIfInBounds_toArray, List.set_cons_zero, List.set_cons_succ]
            refine Go.Shr.wpAnyF_take 10 (oi := { dst := some 68, op := Go.Op.move (Go.Operand.tmp 5), type := 3, pos := "ref.go:77", after := #[], guard := none }) (v := ?g8rv11) rfl (by kernel_rfl) (fun _ _ _ h => h) (by assumption) (by rfl) ?g8ry11 ?g8rr11
            case g8ry11 => intro w hSw; obtain ⟨s1, s2, s3, s4, s5, s6, s7, s8, s9, s10⟩ := hSw; go_simp; try with_reducible rfl
            try simp only [Act.put, List.setIfInBounds_toArray, List.set_cons_zero, List.set_cons_succ]
            refine Go.Shr.wpAnyF_take 11 (oi := { dst := some 69, op := Go.Op.indexAddr 46 (Go.Operand.tmp 67) (Go.Operand.tmp 68), type := 0, pos := "ref.go:77", after := #[{ on := 9, ground := Go.Ground.data }, { on := 10, ground := Go.Ground.data }], guard := none }) (v := ?g8rv12) rfl (by kernel_rfl) (fun _ _ _ h => h) (by assumption) (by rfl) ?g8ry12 ?g8rr12
            case g8ry12 => intro w hSw; obtain ⟨s1, s2, s3, s4, s5, s6, s7, s8, s9, s10⟩ := hSw; go_simp; try with_reducible rfl
            try simp only [Act.put, List.setIfInBounds_toArray, List.set_cons_zero, List.set_cons_succ]
            refine Go.Shr.wpAnyF_take 12 (oi := { dst := some 70, op := Go.Op.load 60 (Go.Operand.tmp 69), type := 60, pos := "ref.go:77", after := #[{ on := 11, ground := Go.Ground.data }], guard := none }) (v := ?g8rv13) rfl (by kernel_rfl) (fun _ _ _ h => h) (by assumption) (by rfl) ?g8ry13 ?g8rr13
            case g8ry13 => intro w hSw; obtain ⟨s1, s2, s3, s4, s5, s6, s7, s8, s9, s10⟩ := hSw; go_simp; try with_reducible rfl
            try simp only [Act.put, List.setIfInBounds_toArray, List.set_cons_zero, List.set_cons_succ]
            refine Go.Shr.wpAnyF_take 13 (oi := { dst := some 71, op := Go.Op.move (Go.Operand.tmp 6), type := 3, pos := "ref.go:77", after := #[], guard := none }) (v := ?g8rv14) rfl (by kernel_rfl) (fun _ _ _ h => h) (by assumption) (by rfl) ?g8ry14 ?g8rr14
            case g8ry14 => intro w hSw; obtain ⟨s1, s2, s3, s4, s5, s6, s7, s8, s9, s10⟩ := hSw; go_simp; try with_reducible rfl
            try simp only [Act.put, List.setIfInBounds_toArray, List.set_cons_zero, List.set_cons_succ]
            refine Go.Shr.wpAnyF_take 14 (oi := { dst := some 72, op := Go.Op.indexAddr 60 (Go.Operand.tmp 70) (Go.Operand.tmp 71), type := 0, pos := "ref.go:77", after := #[{ on := 12, ground := Go.Ground.data }, { on := 13, ground := Go.Ground.data }], guard := none }) (v := ?g8rv15) rfl (by kernel_rfl) (fun _ _ _ h => h) (by assumption) (by rfl) ?g8ry15 ?g8rr15
            case g8ry15 => intro w hSw; obtain ⟨s1, s2, s3, s4, s5, s6, s7, s8, s9, s10⟩ := hSw; go_simp; try with_reducible rfl
            try simp only [Act.put, List.setIfInBounds_toArray, List.set_cons_zero, List.set_cons_succ]
            refine Go.Shr.wpAnyF_take 15 (oi := { dst := some 73, op := Go.Op.load 48 (Go.Operand.tmp 72), type := 48, pos := "ref.go:77", after := #[{ on := 14, ground := Go.Ground.data }], guard := none }) (v := ?g8rv16) rfl (by kernel_rfl) (fun _ _ _ h => h) (by assumption) (by rfl) ?g8ry16 ?g8rr16
            case g8ry16 => intro w hSw; obtain ⟨s1, s2, s3, s4, s5, s6, s7, s8, s9, s10⟩ := hSw; go_simp; try with_reducible rfl
            try simp only [Act.put, List.setIfInBounds_toArray, List.set_cons_zero, List.set_cons_succ]
            refine Go.Shr.wpAnyF_ready [16] (by kernel_rfl) (by simp) ?_
            refine Go.Shr.AllReadyF.cons 16 (o := { dst := some 74, op := Go.Op.call { callee := Go.Callee.value (Go.Operand.func 22), args := #[Go.Operand.tmp 65, Go.Operand.tmp 73], argTypes := #[48, 48] }, type := 4, pos := "ref.go:77", after := #[{ on := 7, ground := Go.Ground.data }, { on := 15, ground := Go.Ground.data }], guard := none }) rfl (fun K hK => ?g8ro17) ?g8rm17
            case g8rm17 => exact Go.Shr.AllReadyF.nil
            go_simp; refine (HIH.out p q hsz3 ka ka2 kcap kcap2 _ (TrAt.below HB3.out.drew _ _ HT.out) (TrAt.below HB3.out.drew _ _ HT2.out)).mono ?_; rintro e w4 ⟨rfl, hb4⟩; (have HB4 := Lib.hid (show Below wr.heap.size wr w4 from bt (b0 wr).drew hb4)); clear hb4; dsimp only
            refine hK.out _ _ ?g8rs17 (fun hHeld => ?g8rt17)
            case g8rs17 => (try dsimp only); (first | exact HC2.out | (have hh := HC2.out; exact ⟨cb HB4.out hh.1, cb HB4.out hh.2.1, cb HB4.out hh.2.2.1, cb HB4.out hh.2.2.2.1, cb HB4.out hh.2.2.2.2.1, cb HB4.out hh.2.2.2.2.2.1, cb HB4.out hh.2.2.2.2.2.2.1, cb HB4.out hh.2.2.2.2.2.2.2.1, cb HB4.out hh.2.2.2.2.2.2.2.2.1, cb HB4.out hh.2.2.2.2.2.2.2.2.2⟩))
            try dsimp only at hHeld
            clear hK K
            try simp only [Act.put, List.setIfInBounds_toArray, List.set_cons_zero, List.set_cons_succ]
            refine Go.Shr.wpAnyF_take 17 (oi := { dst := some 75, op := Go.Op.unOp Go.UnOp.not 4 (Go.Operand.tmp 74), type := 4, pos := "ref.go:77", after := #[{ on := 16, ground := Go.Ground.data }], guard := none }) (v := ?g8rv18) rfl (by kernel_rfl) (fun _ _ _ h => h) (by assumption) (by rfl) ?g8ry18 ?g8rr18
            case g8ry18 => intro w hSw; obtain ⟨s1, s2, s3, s4, s5, s6, s7, s8, s9, s10⟩ := hSw; go_simp; try with_reducible rfl
            try simp only [Act.put, List.setIfInBounds_toArray, List.set_cons_zero, List.set_cons_succ]
            refine Go.Shr.wpAnyF_done (by kernel_rfl) ?_
            have HB5 := Lib.hid (bt HB3.out HB4.out)
            have HZ5 := Lib.hid (cb HB4.out HC2.out.1); have HZ6 := Lib.hid (cb HB4.out HC2.out.2.1)
            clear hHeld z1 z2 g0 g02 v0 v1 v2 x0 x1 x2
            cases hst : sameT p q with
            | true =>
              have HE5 : Hid (sameT t u = (sameL (l.drop (k + 1)) (l2.drop (k + 1)) && sameK (t.kids.drop (j + 1)) (u.kids.drop (j + 1)))) := Lib.hid (by rw [HE3.out, HDL.out, hst, Bool.true_and])
              clear hst
              go_wp2_with fail
              go_roundw
              case rel =>
                exact ⟨k + 1, by go_num, by omega, HE5, HB5, HZ5, HZ6⟩
              case measure => simp [intOf]; omega
            | false =>
              have HE5 : Hid (sameT t u = false) := Lib.hid (by rw [HE3.out, HDL.out, hst, Bool.false_and, Bool.false_and])
              clear hst
              go_wp2_with fail
              go_ret
              exact ⟨ret_bo HE5.out.symm, HB5.out⟩
          · obtain rfl : k = l.length := by omega
            have HE5 : Hid (sameT t u = sameK (t.kids.drop (j + 1)) (u.kids.drop (j + 1))) := Lib.hid (by rw [HE3.out, List.drop_length, List.drop_eq_nil_of_le (by rw [HLL.out]; exact Nat.le_refl _)]; simp [sameL])
            clear hk
            go_wp2_with fail
            go_roundw
            case rel => exact ⟨j + 1, by go_num, by omega, HE5, HB3, HZ3, HZ4⟩
            case measure => simp [intOf]; omega
      · have hlb : ((l.length : Int) != (l2.length : Int)) = true := by simp; omega
        have hlb2 : ((l.length : Int) == (l2.length : Int)) = false := beq_eq_false_iff_ne.2 (by omega)
        have HE2 : Hid (sameT t u = false) := Lib.hid (by rw [HE.out, HD.out, sameL_len hll, Bool.false_and])
        clear hll
        go_wp2_with fail
        refine Go.Shr.wp_region_F (fun w' => w'.cell? ⟨w.heap.size, 2, none⟩ = some (.slice (some ⟨xb, xoff, none⟩) t.kids.length ca) ∧ w'.cell? ⟨w.heap.size + 1, 2, none⟩ = some (.slice (some ⟨xb2, xoff2, none⟩) u.kids.length cb') ∧ w'.cell? ⟨xb, xoff + j, none⟩ = some (.slice la l.length lcap) ∧ w'.cell? ⟨xb2, xoff2 + j, none⟩ = some (.slice la2 l2.length lcap2)) [12] (by kernel_rfl) ?g9rgS (fun hHeld => ?g9rgR)
        case g9rgS => (try dsimp only); (exact HC.out)
        try dsimp only at hHeld
        refine Go.Shr.wpAnyF_take 0 (oi := { dst := some 35, op := Go.Op.fieldAddr 48 (Go.Operand.tmp 2) 2, type := 0, pos := "ref.go:73", after := #[], guard := none }) (v := ?g9rv1) rfl (by kernel_rfl) (fun _ _ _ h => h) (by assumption) (by rfl) ?g9ry1 ?g9rr1
        case g9ry1 => intro w hSw; obtain ⟨s1, s2, s3, s4⟩ := hSw; go_simp; try with_reducible rfl
        try simp only [Act.put, List.setIfInBounds_toArray, List.set_cons_zero, List.set_cons_succ]
        refine Go.Shr.wpAnyF_take 1 (oi := { dst := some 36, op := Go.Op.load 46 (Go.Operand.tmp 35), type := 46, pos := "ref.go:73", after := #[{ on := 0, ground := Go.Ground.data }], guard := none }) (v := ?g9rv2) rfl (by kernel_rfl) (fun _ _ _ h => h) (by assumption) (by rfl) ?g9ry2 ?g9rr2
        case g9ry2 => intro w hSw; obtain ⟨s1, s2, s3, s4⟩ := hSw; go_simp; try with_reducible rfl
        try simp only [Act.put, List.setIfInBounds_toArray, List.set_cons_zero, List.set_cons_succ]
        refine Go.Shr.wpAnyF_take 2 (oi := { dst := some 37, op := Go.Op.move (Go.Operand.tmp 5), type := 3, pos := "ref.go:73", after := #[], guard := none }) (v := ?g9rv3) rfl (by kernel_rfl) (fun _ _ _ h => h) (by assumption) (by rfl) ?g9ry3 ?g9rr3
        case g9ry3 => intro w hSw; obtain ⟨s1, s2, s3, s4⟩ := hSw; go_simp; try with_reducible rfl
        try simp only [Act.put, List.setIfInBounds_toArray, List.set_cons_zero, List.set_cons_succ]
        refine Go.Shr.wpAnyF_take 3 (oi := { dst := some 38, op := Go.Op.indexAddr 46 (Go.Operand.tmp 36) (Go.Operand.tmp 37), type := 0, pos := "ref.go:73", after := #[{ on := 1, ground := Go.Ground.data }, { on := 2, ground := Go.Ground.data }], guard := none }) (v := ?g9rv4) rfl (by kernel_rfl) (fun _ _ _ h => h) (by assumption) (by rfl) ?g9ry4 ?g9rr4
        case g9ry4 => intro w hSw; obtain ⟨s1, s2, s3, s4⟩ := hSw; go_simp; try with_reducible rfl
        try simp only [Act.put, List.setIfInBounds_toArray, List.set_cons_zero, List.set_cons_succ]
        refine Go.Shr.wpAnyF_take 4 (oi := { dst := some 39, op := Go.Op.load 60 (Go.Operand.tmp 38), type := 60, pos := "ref.go:73", after := #[{ on := 3, ground := Go.Ground.data }], guard := none }) (v := ?g9rv5) rfl (by kernel_rfl) (fun _ _ _ h => h) (by assumption) (by rfl) ?g9ry5 ?g9rr5
        case g9ry5 => intro w hSw; obtain ⟨s1, s2, s3, s4⟩ := hSw; go_simp; try with_reducible rfl
        try simp only [Act.put, List.setIfInBounds_toArray, List.set_cons_zero, List.set_cons_succ]
        refine Go.Shr.wpAnyF_take 5 (oi := { dst := some 40, op := Go.Op.call { callee := Go.Callee.builtin Go.Builtin.len, args := #[Go.Operand.tmp 39], argTypes := #[60] }, type := 3, pos := "ref.go:73", after := #[{ on := 4, ground := Go.Ground.data }], guard := none }) (v := ?g9rv6) rfl (by kernel_rfl) (fun _ _ _ h => h) (by assumption) (by rfl) ?g9ry6 ?g9rr6
        case g9ry6 => intro w hSw; obtain ⟨s1, s2, s3, s4⟩ := hSw; go_simp; try with_reducible rfl
        try simp only [Act.put, List.setIfInBounds_toArray, List.set_cons_zero, List.set_cons_succ]
        refine Go.Shr.wpAnyF_take 6 (oi := { dst := some 41, op := Go.Op.fieldAddr 48 (Go.Operand.tmp 3) 2, type := 0, pos := "ref.go:73", after := #[], guard := none }) (v := ?g9rv7) rfl (by kernel_rfl) (fun _ _ _ h => h) (by assumption) (by rfl) ?g9ry7 ?g9rr7
        case g9ry7 => intro w hSw; obtain ⟨s1, s2, s3, s4⟩ := hSw; go_simp; try with_reducible rfl
        try simp only [Act.put, List.setIfInBounds_toArray, List.set_cons_zero, List.set_cons_succ]
        refine Go.Shr.wpAnyF_take 7 (oi := { dst := some 42, op := Go.Op.load 46 (Go.Operand.tmp 41), type := 46, pos := "ref.go:73", after := #[{ on := 6, ground := Go.Ground.data }], guard := none }) (v := ?g9rv8) rfl (by kernel_rfl) (fun _ _ _ h => h) (by assumption) (by rfl) ?g9ry8 ?g9rr8
        case g9ry8 => intro w hSw; obtain ⟨s1, s2, s3, s4⟩ := hSw; go_simp; try with_reducible rfl
        try simp only [Act.put, List.setIfInBounds_toArray, List.set_cons_zero, List.set_cons_succ]
        refine Go.Shr.wpAnyF_take 8 (oi := { dst := some 43, op := Go.Op.move (Go.Operand.tmp 5), type := 3, pos := "ref.go:73", after := #[], guard := none }) (v := ?g9rv9) rfl (by kernel_rfl) (fun _ _ _ h => h) (by assumption) (by rfl) ?g9ry9 ?g9rr9
        case g9ry9 => intro w hSw; obtain ⟨s1, s2, s3, s4⟩ := hSw; go_simp; try with_reducible rfl
        try simp only [Act.put, List.setIfInBounds_toArray, List.set_cons_zero, List.set_cons_succ]
        refine Go.Shr.wpAnyF_take 9 (oi := { dst := some 44, op := Go.Op.indexAddr 46 (Go.Operand.tmp 42) (Go.Operand.tmp 43), type := 0, pos := "ref.go:73", after := #[{ on := 7, ground := Go.Ground.data }, { on := 8, ground := Go.Ground.data }], guard := none }) (v := ?g9rv10) rfl (by kernel_rfl) (fun _ _ _ h => h) (by assumption) (by rfl) ?g9ry10 ?g9rr10
        case g9ry10 => intro w hSw; obtain ⟨s1, s2, s3, s4⟩ := hSw; go_simp; try with_reducible rfl
        try simp only [Act.put, List.setIfInBounds_toArray, List.set_cons_zero, List.set_cons_succ]
        refine Go.Shr.wpAnyF_take 10 (oi := { dst := some 45, op := Go.Op.load 60 (Go.Operand.tmp 44), type := 60, pos := "ref.go:73", after := #[{ on := 9, ground := Go.Ground.data }], guard := none }) (v := ?g9rv11) rfl (by kernel_rfl) (fun _ _ _ h => h) (by assumption) (by rfl) ?g9ry11 ?g9rr11
        case g9ry11 => intro w hSw; obtain ⟨s1, s2, s3, s4⟩ := hSw; go_simp; try with_reducible rfl
        try simp only [Act.put, List.setIfInBounds_toArray, List.set_cons_zero, List.set_cons_succ]
        refine Go.Shr.wpAnyF_take 11 (oi := { dst := some 46, op := Go.Op.call { callee := Go.Callee.builtin Go.Builtin.len, args := #[Go.Operand.tmp 45], argTypes := #[60] }, type := 3, pos := "ref.go:73", after := #[{ on := 10, ground := Go.Ground.data }], guard := none }) (v := ?g9rv12) rfl (by kernel_rfl) (fun _ _ _ h => h) (by assumption) (by rfl) ?g9ry12 ?g9rr12
        case g9ry12 => intro w hSw; obtain ⟨s1, s2, s3, s4⟩ := hSw; go_simp; try with_reducible rfl
        try simp only [Act.put, List.setIfInBounds_toArray, List.set_cons_zero, List.set_cons_succ]
        refine Go.Shr.wpAnyF_ready [12] (by kernel_rfl) (by simp) ?_
        refine Go.Shr.AllReadyF.last 12 (o := { dst := some 47, op := Go.Op.binOp Go.BinOp.neq 3 (Go.Operand.tmp 40) (Go.Operand.tmp 46) 3, type := 4, pos := "ref.go:73", after := #[{ on := 5, ground := Go.Ground.data }, { on := 11, ground := Go.Ground.data }], guard := none }) rfl (by kernel_rfl) (fun K hK => ?g9ro13) ?g9rm13
        case g9rm13 => exact Go.Shr.AllReadyF.nil
        go_simp
        refine hK.out _ _ ?_
        clear hK K
        try simp only [Act.put, List.setIfInBounds_toArray, List.set_cons_zero, List.set_cons_succ]
        refine Go.Shr.wpAnyF_done (by kernel_rfl) ?_
        clear hHeld
        go_wp2_with fail
        go_ret
        exact ⟨ret_bo HE2.out.symm, HB.out.drew⟩
    · obtain rfl : j = t.kids.length := by omega
      have HE2 : Hid (sameT t u = true) := Lib.hid (by rw [HE.out, List.drop_length, List.drop_eq_nil_of_le (by rw [HLE.out]; exact Nat.le_refl _)]; simp [sameK])
      clear hj
      go_wp2_with fail
      go_ret
      exact ⟨ret_bo HE2.out.symm, HB.out⟩
theorem same_all : ∀ N, SameTo 22 N
  | 0 => fun _ _ h => absurd h (Nat.not_lt_zero _)
  | N + 1 => same_step N (same_all N)
end Go.Proofs.Ytgpffcgkfgiodaa
