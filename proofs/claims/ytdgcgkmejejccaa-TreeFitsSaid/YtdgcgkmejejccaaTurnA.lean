/-
  The walk of turn, all six kinds.
-/
import Derived.Test.YtdgcgkmejejccaaTurnP
import Derived.Test.YtdgcgkmejejccaaFresh
import Derived.Deep.CutRange
import Derived.Deep.CutBlock
import Derived.IntWalk
import Derived.Deep.OwnRows
set_option linter.unusedSimpArgs false
namespace Go.Proofs.Ytdgcgkmejejccaa
open Go.RowKit Go.Shr
theorem zeros_row (ok : Nat → Prop) (w : World) : ∀ n, RowG ok w (List.replicate n zeroT) (List.replicate n [Value.int .i64 0, .string ByteArray.empty, .slice none 0 0]).flatten
  | 0 => by simp [RowG]
  | n + 1 => by
    simp only [List.replicate_succ, List.flatten_cons, List.cons_append, List.nil_append, RowG]
    exact ⟨_, _, _, _, rfl, TrG.leaf (by decide), zeros_row ok w n⟩
def zeros51 : Array Value := (List.replicate 51 [Value.int .i64 0, .string ByteArray.empty, .slice none 0 0]).flatten.toArray
theorem zeros_sl {ok : Nat → Prop} {w : World} {b : Nat} {t : TypeId} (h : Rw w b zeros51 t) (hk : ok b) : Sl ok w 3 (some ⟨b, 0, none⟩) 51 51 (List.replicate 51 [Value.int .i64 0, .string ByteArray.empty, .slice none 0 0]).flatten :=
  ⟨by simp, Nat.le_refl _, by decide, .inr ⟨b, 0, rfl, hk, fun j u hj => by rw [Nat.zero_add, h.cell, zeros51]; simpa using hj⟩⟩
theorem make51 (w : World) : (Instr.makeSlice 40 (.int .i64 51) (.int .i64 51)).run Try.prog w = .ok (.slice (some ⟨w.heap.size, 0, none⟩) 51 51) (w.alloc (.cells zeros51 25)) := by
  obtain ⟨it, hit, hz0t, hz1t, hz2t⟩ := info_parts info_tr
  have h := run_make (P := Try.prog) (w := w) 40 25 it _ Try.underlying40 hit hz0t .i64 .i64 51 51 (by decide) (by decide) (by rw [hz2t]; decide) (by decide)
  have e : madeCells (Value.agg #[.int .i64 0, .string ByteArray.empty, .slice none 0 0]).cells (Int.toNat 51 * 3) = zeros51 := by kernel_rfl
  rw [h, hz1t, e]
  rfl
theorem _root_.Go.Shr.Own.ren {B : Nat} {W X : World} {e : TypeId} {size : Nat} {a : Option Addr} {n cap : Nat} {xs : List Value} (hW : W = X) (h : Own B X e size a n cap xs) : Own B W e size a n cap xs := hW ▸ h
def TurnQ (ok : Nat → Prop) (t' : Tr) (w : World) (e : Ending) (w' : World) : Prop :=
  ∃ a m cap, e = .returned (.agg #[.int .i64 t'.n, .string t'.s, .slice a m cap]) ∧ TrG (fun b => ok b ∨ w.heap.size ≤ b) w' t' [.int .i64 t'.n, .string t'.s, .slice a m cap] ∧ Below w.heap.size w w'
def TurnOk (aa : Option Addr) (an ac : Nat) (ats : List Int) (which n : Int) (s : ByteArray) (f i : Nat) : Prop :=
  ∀ (ok : Nat → Prop) (t : Tr) (a : Option Addr) (cap : Nat) (w : World), Thin t → TrG ok w t [.int .i64 t.n, .string t.s, .slice a t.kids.length cap] → (∀ b, ok b → b < w.heap.size) → Sl (fun b => b < w.heap.size) w 1 aa an ac (ints ats) →
  Calls Try.prog 16 #[.agg #[.int .i64 t.n, .string t.s, .slice a t.kids.length cap], .slice aa an ac, .int .i64 (i : Int), .int .i64 which, .int .i64 n, .string s] w (TurnQ ok (turnT ats which n s f i t) w)
theorem tdiv16 (x : Int) (h : -9223372036854775808 ≤ x ∧ x ≤ 9223372036854775807) : -9223372036854775808 ≤ x.tdiv 16 ∧ x.tdiv 16 ≤ 9223372036854775807 := by
  rcases Int.le_total 0 x with h0 | h0
  · rw [Int.tdiv_eq_ediv_of_nonneg h0]; omega
  · obtain ⟨y, rfl⟩ : ∃ y, x = -y := ⟨-x, by omega⟩
    rw [Int.neg_tdiv, Int.tdiv_eq_ediv_of_nonneg (by omega)]; omega
theorem turn_fin {ok : Nat → Prop} {w wx W : World} {a : Option Addr} {m c : Nat} {ks : List (List Tr)} {xs : List Value} {n : Int} {s : ByteArray} (hbx : Below w.heap.size w wx) (hzx : wx.heap.size = w.heap.size + 1 + 1) (hb : Below wx.heap.size wx W)
    (hg : GKid (fun b => ok b ∨ wx.heap.size ≤ b) 40 W a m c ks xs) (hn : ∀ b, blk a b → wx.heap.size ≤ b) (hok : ∀ b, ok b → b < w.heap.size) (hs : s.size ≤ maxLen) :
    TurnQ ok (.mk n s ks) w (.returned (.agg #[.int .i64 n, .string s, .slice a m c])) (((W.setCell ⟨w.heap.size + 1, 0, none⟩ (.int .i64 n)).setCell ⟨w.heap.size + 1, 1, none⟩ (.string s)).setCell ⟨w.heap.size + 1, 2, none⟩ (.slice a m c)) := by
  have h2 : Chg (fun b => b = w.heap.size + 1) W (((W.setCell ⟨w.heap.size + 1, 0, none⟩ (.int .i64 n)).setCell ⟨w.heap.size + 1, 1, none⟩ (.string s)).setCell ⟨w.heap.size + 1, 2, none⟩ (.slice a m c)) := (((Chg.refl (fun b => b = w.heap.size + 1) W).setCell (p := ⟨w.heap.size + 1, 0, none⟩) (.inr rfl) _).setCell (p := ⟨w.heap.size + 1, 1, none⟩) (.inr rfl) _).setCell (p := ⟨w.heap.size + 1, 2, none⟩) (.inr rfl) _
  have hg2 := hg.chg h2 (fun k hk h => by
    rcases h with (h | h) | h
    · have := hok k h; omega
    · omega
    · have := hn k h; omega)
  refine ⟨a, m, c, rfl, hg2.tree hs (fun k hk h => ?_), ((bt hbx hb).setCell (p := ⟨w.heap.size + 1, 0, none⟩) (by simp) _ |>.setCell (p := ⟨w.heap.size + 1, 1, none⟩) (by simp) _).setCell (p := ⟨w.heap.size + 1, 2, none⟩) (by simp) _⟩
  rcases h with (h | h) | h
  · exact .inl h
  · exact .inr (by omega)
  · have := hn k h; exact .inr (by omega)
set_option maxHeartbeats 40000000 in
set_option maxRecDepth 100000 in
theorem turn_step (aa0 : Option Addr) (an ac : Nat) (ats : List Int) (which n : Int) (s : ByteArray) (hw : ∀ z ∈ ats, (Lit.int .i64 z).wf = true) (hss : s.size ≤ maxLen) (f i : Nat) (hfi : f + i = 6) (IH : 0 < f → TurnOk aa0 an ac ats which n s (f - 1) (i + 1)) :
    TurnOk aa0 an ac ats which n s f i := by
  intro ok tt a cap w hthin hT hok hat
  obtain ⟨it, hit, hz0t, hz1t, hz2t⟩ := info_parts info_tr
  obtain ⟨ik, hik, hz0k, hz1k, hz2k⟩ := info_parts info_ts
  obtain ⟨_, _, _, xs, hcs, hm, hs, hsl, hk⟩ := id hT.parts
  simp at hcs
  obtain ⟨rfl, rfl, rfl⟩ := hcs
  have han : ats.length = an := by have := hat.len; rw [ints_length] at this; omega
  have hkl : tt.kids.length ≤ 1000 := by cases tt; simp only [Thin] at hthin; exact hthin.1
  have hax := Nat.le_trans hat.le hat.max
  unfold maxLen at hax
  have HS := Lib.hid hsl; have HK := Lib.hid hk; have HA := Lib.hid hat; have HT := Lib.hid hT; have HTH := Lib.hid hthin; have HIH := Lib.hid IH; have HW := Lib.hid hw
  have HONE := Lib.hid (KidG.one' hk)
  have HOKB := Lib.hid hok
  clear hsl hk hat hT hthin IH hw hm hok
  go_enter Try.func16, Try.ntmps16
  go_wp2_with fail
  obtain ⟨wx, hwx⟩ : ∃ wx, wx = (w.alloc (.cells #[.int .i64 tt.n, .string tt.s, .slice a tt.kids.length cap] 25)).alloc (.cells #[.int .i64 0, .string ⟨#[]⟩, .slice none 0 0] 25) := ⟨_, rfl⟩
  have hbx : Below w.heap.size w wx := by rw [hwx]; exact ba (ba (b0 w) _) _
  have r6 : Rw wx w.heap.size #[.int .i64 tt.n, .string tt.s, .slice a tt.kids.length cap] 25 := by rw [hwx]; exact (Rw.new w _ _).alloc _
  have r12 : Rw wx (w.heap.size + 1) #[.int .i64 0, .string ⟨#[]⟩, .slice none 0 0] 25 := by rw [hwx]; exact Rw.new' (by simp)
  have hzx : wx.heap.size = w.heap.size + 1 + 1 := by rw [hwx]; simp
  rw [← hwx]
  clear hwx
  have HBX := Lib.hid hbx; have HR6 := Lib.hid r6; have HR12 := Lib.hid r12; have HZX := Lib.hid hzx
  clear hbx r6 r12 hzx
  go_upto_region 2 with fail
  go_cut [13] from 18 to 26 (fun v13 wc => ∃ (b13 : Nat) (a7 : Option Addr) (cap7 : Nat), v13 = .pointer (some ⟨b13, 0, none⟩) ∧ wx.heap.size ≤ b13 ∧ Hid (Rw wc b13 #[.int .i64 tt.n, .string tt.s, .slice a7 tt.kids.length cap7] 25) ∧ Hid (GKid ok 40 wc a7 tt.kids.length cap7 tt.kids xs) ∧ Hid (∀ b, blk a7 b → wx.heap.size ≤ b ∧ b ≠ b13) ∧ Hid (Below wx.heap.size wx wc))
  case first =>
    go_wp2_with fail
    refine Go.Shr.wp_region_K [10] [18, 19, 20, 21, 22, 23, 24, 25, 26, 13] (fun w' => Rw w' w.heap.size #[.int .i64 tt.n, .string tt.s, .slice a tt.kids.length cap] 25 ∧ Sl (fun b => b < w'.heap.size) w' 1 a tt.kids.length cap xs) [?g1cJ0, ?g1cJ1, ?g1cJ2, ?g1cJ3, Go.undef, ?g1cJ5, ?g1cJ6, Go.undef, Go.undef, Go.undef, Go.undef] (fun i => match i with | 4 => some (fun v w' => ∃ b, v = .slice (some ⟨b, 0, none⟩) 0 0 ∧ wx.heap.size ≤ b ∧ Rw w' b #[] 40) | 7 => some (fun v w' => ∃ a7 cap7, v = .slice a7 tt.kids.length cap7 ∧ Own 0 w' 40 1 a7 tt.kids.length cap7 xs ∧ ∀ b, blk a7 b → wx.heap.size ≤ b ∧ ∃ cur, Rw w' b cur 40) | 8 => some (fun v w' => ∃ a7 cap7, v = .agg #[.int .i64 tt.n, .string tt.s, .slice a7 tt.kids.length cap7] ∧ Own 0 w' 40 1 a7 tt.kids.length cap7 xs ∧ ∀ b, blk a7 b → wx.heap.size ≤ b ∧ ∃ cur, Rw w' b cur 40) | _ => none) (fun i => match i with | 9 => some (#[.int .i64 0, .string ByteArray.empty, .slice none 0 0], 25) | _ => none) (by kernel_rfl) (by kernel_rfl) (by simp) ?g1kS ?g1kT ?g1kC ?g1kO ?g1kA ?g1kE
    case g1kS => first | trivial | ((try dsimp only); (exact ⟨HR6.out, slb (HS.out.mono (fun k hk _ => hk) (by decide)) HBX.out⟩))
    case g1kT => intro w w' hb h; first | trivial | ((try dsimp only at h ⊢); (exact ⟨h.1.below hb, slb h.2 hb⟩))
    case g1kC => intro i p hp v w w' hb h; (try dsimp only at hp); split at hp <;> first | (cases hp; (try dsimp only at h ⊢); (first | (obtain ⟨b, h1, h2, h3⟩ := h; exact ⟨b, h1, h2, h3.below hb⟩) | (obtain ⟨a7, c7, h1, h2, h3⟩ := h; exact ⟨a7, c7, h1, h2.below hb, fun b hk => ⟨(h3 b hk).1, (h3 b hk).2.imp fun c hc => hc.below hb⟩⟩))) | cases hp
    case g1kO =>
      refine (show Go.Shr.AllO 11 _ from (Go.Shr.AllO.succ (Go.Shr.AllO.succ (Go.Shr.AllO.succ (Go.Shr.AllO.succ (Go.Shr.AllO.succ (Go.Shr.AllO.succ (Go.Shr.AllO.succ (Go.Shr.AllO.succ (Go.Shr.AllO.succ (Go.Shr.AllO.succ (Go.Shr.AllO.succ Go.Shr.AllO.zero ?g1kO0) ?g1kO1) ?g1kO2) ?g1kO3) ?g1kO4) ?g1kO5) ?g1kO6) ?g1kO7) ?g1kO8) ?g1kO9) ?g1kO10))
      case g1kO0 =>
        intro _ _
        refine Go.Shr.ObJ.mk (o := { dst := some 18, op := Go.Op.fieldAddr 25 (Go.Operand.tmp 6) 0, type := 0, pos := "law.go:131", after := #[], guard := none }) rfl ?_
        intro t w hSw hBw hdep G hG; try dsimp only at hSw
        refine hG.out ?_
        clear hG
        generalize hfr : Go.Shr.frOf _ _ t = fr
        simp only [Go.Shr.frOf, List.foldl_cons, List.foldl_nil, Act.put, List.setIfInBounds_toArray, List.set_cons_zero, List.set_cons_succ] at hfr
        subst hfr
        refine Go.Shr.obq (C := Go.Shr.CK _ _ _ _) (i := 0) (v := ?g1cJ0) (by rfl) ?g1kY0 (Go.Shr.CK_intro rfl rfl rfl)
        case g1kY0 => (obtain ⟨g1, g2⟩ := hSw); (have z0 : w.cell? ⟨_, 0, none⟩ = some (.int .i64 tt.n) := g1.cell 0); (have z1 : w.cell? ⟨_, 1, none⟩ = some (.string tt.s) := g1.cell 1); (have z2 : w.cell? ⟨_, 2, none⟩ = some (.slice a tt.kids.length cap) := g1.cell 2); go_simp; try with_reducible rfl
      case g1kO1 =>
        intro _ _
        refine Go.Shr.ObJ.mk (o := { dst := some 19, op := Go.Op.load 3 (Go.Operand.tmp 18), type := 3, pos := "law.go:131", after := #[{ on := 0, ground := Go.Ground.data }], guard := none }) rfl ?_
        intro t w hSw hBw hdep G hG; try dsimp only at hSw
        have ht18 : t 18 = _ := Go.Shr.CK_const (v := t 18) (hdep 0 (by kernel_rfl)) rfl rfl rfl
        refine hG.out ?_
        clear hG
        generalize hfr : Go.Shr.frOf _ _ t = fr
        simp only [Go.Shr.frOf, List.foldl_cons, List.foldl_nil, Act.put, List.setIfInBounds_toArray, List.set_cons_zero, List.set_cons_succ, ht18] at hfr
        subst hfr
        clear ht18
        refine Go.Shr.obq (C := Go.Shr.CK _ _ _ _) (i := 1) (v := ?g1cJ1) (by rfl) ?g1kY1 (Go.Shr.CK_intro rfl rfl rfl)
        case g1kY1 => (obtain ⟨g1, g2⟩ := hSw); (have z0 : w.cell? ⟨_, 0, none⟩ = some (.int .i64 tt.n) := g1.cell 0); (have z1 : w.cell? ⟨_, 1, none⟩ = some (.string tt.s) := g1.cell 1); (have z2 : w.cell? ⟨_, 2, none⟩ = some (.slice a tt.kids.length cap) := g1.cell 2); go_simp; try with_reducible rfl
      case g1kO2 =>
        intro _ _
        refine Go.Shr.ObJ.mk (o := { dst := some 20, op := Go.Op.fieldAddr 25 (Go.Operand.tmp 6) 1, type := 0, pos := "law.go:131", after := #[], guard := none }) rfl ?_
        intro t w hSw hBw hdep G hG; try dsimp only at hSw
        refine hG.out ?_
        clear hG
        generalize hfr : Go.Shr.frOf _ _ t = fr
        simp only [Go.Shr.frOf, List.foldl_cons, List.foldl_nil, Act.put, List.setIfInBounds_toArray, List.set_cons_zero, List.set_cons_succ] at hfr
        subst hfr
        refine Go.Shr.obq (C := Go.Shr.CK _ _ _ _) (i := 2) (v := ?g1cJ2) (by rfl) ?g1kY2 (Go.Shr.CK_intro rfl rfl rfl)
        case g1kY2 => (obtain ⟨g1, g2⟩ := hSw); (have z0 : w.cell? ⟨_, 0, none⟩ = some (.int .i64 tt.n) := g1.cell 0); (have z1 : w.cell? ⟨_, 1, none⟩ = some (.string tt.s) := g1.cell 1); (have z2 : w.cell? ⟨_, 2, none⟩ = some (.slice a tt.kids.length cap) := g1.cell 2); go_simp; try with_reducible rfl
      case g1kO3 =>
        intro _ _
        refine Go.Shr.ObJ.mk (o := { dst := some 21, op := Go.Op.load 9 (Go.Operand.tmp 20), type := 9, pos := "law.go:131", after := #[{ on := 2, ground := Go.Ground.data }], guard := none }) rfl ?_
        intro t w hSw hBw hdep G hG; try dsimp only at hSw
        have ht20 : t 20 = _ := Go.Shr.CK_const (v := t 20) (hdep 2 (by kernel_rfl)) rfl rfl rfl
        refine hG.out ?_
        clear hG
        generalize hfr : Go.Shr.frOf _ _ t = fr
        simp only [Go.Shr.frOf, List.foldl_cons, List.foldl_nil, Act.put, List.setIfInBounds_toArray, List.set_cons_zero, List.set_cons_succ, ht20] at hfr
        subst hfr
        clear ht20
        refine Go.Shr.obq (C := Go.Shr.CK _ _ _ _) (i := 3) (v := ?g1cJ3) (by rfl) ?g1kY3 (Go.Shr.CK_intro rfl rfl rfl)
        case g1kY3 => (obtain ⟨g1, g2⟩ := hSw); (have z0 : w.cell? ⟨_, 0, none⟩ = some (.int .i64 tt.n) := g1.cell 0); (have z1 : w.cell? ⟨_, 1, none⟩ = some (.string tt.s) := g1.cell 1); (have z2 : w.cell? ⟨_, 2, none⟩ = some (.slice a tt.kids.length cap) := g1.cell 2); go_simp; try with_reducible rfl
      case g1kO4 =>
        intro _ _
        refine Go.Shr.ObJ.mk (o := { dst := some 22, op := Go.Op.buildSlice 23 0 #[], type := 23, pos := "law.go:131", after := #[], guard := none }) rfl ?_
        intro t w hSw hBw hdep G hG; try dsimp only at hSw
        refine hG.out ?_
        clear hG
        generalize hfr : Go.Shr.frOf _ _ t = fr
        simp only [Go.Shr.frOf, List.foldl_cons, List.foldl_nil, Act.put, List.setIfInBounds_toArray, List.set_cons_zero, List.set_cons_succ] at hfr
        subst hfr
        refine Go.Shr.obc (C := Go.Shr.CK _ _ _ _) (i := 4) (by rfl) (fun K hK => ?_)
        ((obtain ⟨g1, g2⟩ := hSw); (have z0 : w.cell? ⟨_, 0, none⟩ = some (.int .i64 tt.n) := g1.cell 0); (have z1 : w.cell? ⟨_, 1, none⟩ = some (.string tt.s) := g1.cell 1); (have z2 : w.cell? ⟨_, 2, none⟩ = some (.slice a tt.kids.length cap) := g1.cell 2)); go_simp; refine hK.out _ _ (ba (b0 _) _) (Go.Shr.CK_pintro rfl rfl ⟨_, rfl, hBw.size, Rw.new _ _ _⟩)
      case g1kO5 =>
        intro _ _
        refine Go.Shr.ObJ.mk (o := { dst := some 23, op := Go.Op.fieldAddr 25 (Go.Operand.tmp 6) 2, type := 0, pos := "law.go:131", after := #[], guard := none }) rfl ?_
        intro t w hSw hBw hdep G hG; try dsimp only at hSw
        refine hG.out ?_
        clear hG
        generalize hfr : Go.Shr.frOf _ _ t = fr
        simp only [Go.Shr.frOf, List.foldl_cons, List.foldl_nil, Act.put, List.setIfInBounds_toArray, List.set_cons_zero, List.set_cons_succ] at hfr
        subst hfr
        refine Go.Shr.obq (C := Go.Shr.CK _ _ _ _) (i := 5) (v := ?g1cJ5) (by rfl) ?g1kY5 (Go.Shr.CK_intro rfl rfl rfl)
        case g1kY5 => (obtain ⟨g1, g2⟩ := hSw); (have z0 : w.cell? ⟨_, 0, none⟩ = some (.int .i64 tt.n) := g1.cell 0); (have z1 : w.cell? ⟨_, 1, none⟩ = some (.string tt.s) := g1.cell 1); (have z2 : w.cell? ⟨_, 2, none⟩ = some (.slice a tt.kids.length cap) := g1.cell 2); go_simp; try with_reducible rfl
      case g1kO6 =>
        intro _ _
        refine Go.Shr.ObJ.mk (o := { dst := some 24, op := Go.Op.load 23 (Go.Operand.tmp 23), type := 23, pos := "law.go:131", after := #[{ on := 5, ground := Go.Ground.data }], guard := none }) rfl ?_
        intro t w hSw hBw hdep G hG; try dsimp only at hSw
        have ht23 : t 23 = _ := Go.Shr.CK_const (v := t 23) (hdep 5 (by kernel_rfl)) rfl rfl rfl
        refine hG.out ?_
        clear hG
        generalize hfr : Go.Shr.frOf _ _ t = fr
        simp only [Go.Shr.frOf, List.foldl_cons, List.foldl_nil, Act.put, List.setIfInBounds_toArray, List.set_cons_zero, List.set_cons_succ, ht23] at hfr
        subst hfr
        clear ht23
        refine Go.Shr.obq (C := Go.Shr.CK _ _ _ _) (i := 6) (v := ?g1cJ6) (by rfl) ?g1kY6 (Go.Shr.CK_intro rfl rfl rfl)
        case g1kY6 => (obtain ⟨g1, g2⟩ := hSw); (have z0 : w.cell? ⟨_, 0, none⟩ = some (.int .i64 tt.n) := g1.cell 0); (have z1 : w.cell? ⟨_, 1, none⟩ = some (.string tt.s) := g1.cell 1); (have z2 : w.cell? ⟨_, 2, none⟩ = some (.slice a tt.kids.length cap) := g1.cell 2); go_simp; try with_reducible rfl
      case g1kO7 =>
        intro _ _
        refine Go.Shr.ObJ.mk (o := { dst := some 25, op := Go.Op.call { callee := Go.Callee.builtin Go.Builtin.append, args := #[Go.Operand.tmp 22, Go.Operand.tmp 24], argTypes := #[23, 23] }, type := 23, pos := "law.go:131", after := #[{ on := 4, ground := Go.Ground.data }, { on := 6, ground := Go.Ground.data }], guard := none }) rfl ?_
        intro t w hSw hBw hdep G hG; try dsimp only at hSw
        have hx4 := Go.Shr.CK_pred (p := fun v w' => ∃ b, v = .slice (some ⟨b, 0, none⟩) 0 0 ∧ wx.heap.size ≤ b ∧ Rw w' b #[] 40) (v := t 22) (hdep 4 (by kernel_rfl)) rfl rfl; try dsimp only at hx4
        obtain ⟨b4, hq4, hl4, hm4⟩ := hx4
        have ht24 : t 24 = _ := Go.Shr.CK_const (v := t 24) (hdep 6 (by kernel_rfl)) rfl rfl rfl
        refine hG.out ?_
        clear hG
        generalize hfr : Go.Shr.frOf _ _ t = fr
        simp only [Go.Shr.frOf, List.foldl_cons, List.foldl_nil, Act.put, List.setIfInBounds_toArray, List.set_cons_zero, List.set_cons_succ, hq4, ht24] at hfr
        subst hfr
        clear hq4
        clear ht24
        refine Go.Shr.obc (C := Go.Shr.CK _ _ _ _) (i := 7) (by rfl) (fun K hK => ?_)
        ((obtain ⟨g1, g2⟩ := hSw); (have z0 : w.cell? ⟨_, 0, none⟩ = some (.int .i64 tt.n) := g1.cell 0); (have z1 : w.cell? ⟨_, 1, none⟩ = some (.string tt.s) := g1.cell 1); (have z2 : w.cell? ⟨_, 2, none⟩ = some (.slice a tt.kids.length cap) := g1.cell 2)); refine wp_fresh (B := 0) _ _ _ _ rfl ik (.slice none 0 0) 24 Try.underlying23 hik hz0k hz1k hz2k rfl rfl _ rfl _ _ (g2.src (P := Try.prog) (tx := 23) Try.underlying23 HONE.out) (by simp only [maxLen]; omega) (by omega) (Nat.zero_le _) ?_; intro a7 cap7 w7 ho7 hb7 hn7; refine hK.out _ _ hb7 (Go.Shr.CK_pintro rfl rfl ⟨a7, cap7, rfl, ho7, fun b hb => ?_⟩); (have hq := hBw.size); (have hq7 := hb7.size); rcases hn7 b hb with ⟨_, _, hq8⟩ | ⟨hq8, hq9⟩; (cases hq8; exact ⟨hl4, _, hm4.below hb7⟩); exact ⟨Nat.le_trans hq hq8, hq9⟩
      case g1kO8 =>
        intro _ _
        refine Go.Shr.ObJ.mk (o := { dst := some 26, op := Go.Op.build 25 #[(0, Go.Operand.tmp 19), (1, Go.Operand.tmp 21), (2, Go.Operand.tmp 25)], type := 25, pos := "law.go:131", after := #[{ on := 1, ground := Go.Ground.data }, { on := 3, ground := Go.Ground.data }, { on := 7, ground := Go.Ground.data }], guard := none }) rfl ?_
        intro t w hSw hBw hdep G hG; try dsimp only at hSw
        have ht19 : t 19 = _ := Go.Shr.CK_const (v := t 19) (hdep 1 (by kernel_rfl)) rfl rfl rfl
        have ht21 : t 21 = _ := Go.Shr.CK_const (v := t 21) (hdep 3 (by kernel_rfl)) rfl rfl rfl
        have hx7 := Go.Shr.CK_pred (p := fun v w' => ∃ a7 cap7, v = .slice a7 tt.kids.length cap7 ∧ Own 0 w' 40 1 a7 tt.kids.length cap7 xs ∧ ∀ b, blk a7 b → wx.heap.size ≤ b ∧ ∃ cur, Rw w' b cur 40) (v := t 25) (hdep 7 (by kernel_rfl)) rfl rfl; try dsimp only at hx7
        obtain ⟨a7, cap7, hq7, ho7, hl7⟩ := hx7
        refine hG.out ?_
        clear hG
        generalize hfr : Go.Shr.frOf _ _ t = fr
        simp only [Go.Shr.frOf, List.foldl_cons, List.foldl_nil, Act.put, List.setIfInBounds_toArray, List.set_cons_zero, List.set_cons_succ, ht19, ht21, hq7] at hfr
        subst hfr
        clear ht19
        clear ht21
        clear hq7
        refine Go.Shr.obq (C := Go.Shr.CK _ _ _ _) (i := 8) (v := ?g1kV8) (by rfl) ?g1kY8 (Go.Shr.CK_pintro rfl rfl ?g1kZ8)
        case g1kY8 => (obtain ⟨g1, g2⟩ := hSw); (have z0 : w.cell? ⟨_, 0, none⟩ = some (.int .i64 tt.n) := g1.cell 0); (have z1 : w.cell? ⟨_, 1, none⟩ = some (.string tt.s) := g1.cell 1); (have z2 : w.cell? ⟨_, 2, none⟩ = some (.slice a tt.kids.length cap) := g1.cell 2); go_simp; try with_reducible rfl
        case g1kZ8 => exact ⟨a7, cap7, rfl, ho7, hl7⟩
      case g1kO9 => exact fun _ h => absurd h (by simp)
      case g1kO10 => exact fun h => absurd h (by decide)
    case g1kA =>
      refine (show Go.Shr.AllO 11 _ from (Go.Shr.AllO.succ (Go.Shr.AllO.succ (Go.Shr.AllO.succ (Go.Shr.AllO.succ (Go.Shr.AllO.succ (Go.Shr.AllO.succ (Go.Shr.AllO.succ (Go.Shr.AllO.succ (Go.Shr.AllO.succ (Go.Shr.AllO.succ (Go.Shr.AllO.succ Go.Shr.AllO.zero ?g1kA0) ?g1kA1) ?g1kA2) ?g1kA3) ?g1kA4) ?g1kA5) ?g1kA6) ?g1kA7) ?g1kA8) ?g1kA9) ?g1kA10))
      case g1kA0 => intro z hz; cases hz
      case g1kA1 => intro z hz; cases hz
      case g1kA2 => intro z hz; cases hz
      case g1kA3 => intro z hz; cases hz
      case g1kA4 => intro z hz; cases hz
      case g1kA5 => intro z hz; cases hz
      case g1kA6 => intro z hz; cases hz
      case g1kA7 => intro z hz; cases hz
      case g1kA8 => intro z hz; cases hz
      case g1kA9 => intro z hz; cases hz; refine Go.Shr.obal (o := { dst := some 13, op := Go.Op.alloc 25, type := 0, pos := "law.go:131", after := #[], guard := none }) rfl rfl ?_; intro K a w hK; go_simp; exact hK
      case g1kA10 => intro z hz; cases hz
    case g1kE =>
      intro a w hJ G hG
      obtain ⟨t, rfl, hSw, HJB, hcJ, hdJ⟩ := hJ.open
      try dsimp only at hSw
      have ht18 : t 18 = _ := Go.Shr.CK_const (v := t 18) (hcJ 0 (by decide) (by decide)) rfl rfl rfl
      have ht19 : t 19 = _ := Go.Shr.CK_const (v := t 19) (hcJ 1 (by decide) (by decide)) rfl rfl rfl
      have ht20 : t 20 = _ := Go.Shr.CK_const (v := t 20) (hcJ 2 (by decide) (by decide)) rfl rfl rfl
      have ht21 : t 21 = _ := Go.Shr.CK_const (v := t 21) (hcJ 3 (by decide) (by decide)) rfl rfl rfl
      have hx4 := Go.Shr.CK_pred (p := fun v w' => ∃ b, v = .slice (some ⟨b, 0, none⟩) 0 0 ∧ wx.heap.size ≤ b ∧ Rw w' b #[] 40) (v := t 22) (hcJ 4 (by decide) (by decide)) rfl rfl; try dsimp only at hx4
      obtain ⟨b4, hq4, hl4, hm4⟩ := hx4
      have ht23 : t 23 = _ := Go.Shr.CK_const (v := t 23) (hcJ 5 (by decide) (by decide)) rfl rfl rfl
      have ht24 : t 24 = _ := Go.Shr.CK_const (v := t 24) (hcJ 6 (by decide) (by decide)) rfl rfl rfl
      have hx7 := Go.Shr.CK_pred (p := fun v w' => ∃ a7 cap7, v = .slice a7 tt.kids.length cap7 ∧ Own 0 w' 40 1 a7 tt.kids.length cap7 xs ∧ ∀ b, blk a7 b → wx.heap.size ≤ b ∧ ∃ cur, Rw w' b cur 40) (v := t 25) (hcJ 7 (by decide) (by decide)) rfl rfl; try dsimp only at hx7
      obtain ⟨a7, cap7, hq7, ho7, hl7⟩ := hx7
      have hx8 := Go.Shr.CK_pred (p := fun v w' => ∃ a7 cap7, v = .agg #[.int .i64 tt.n, .string tt.s, .slice a7 tt.kids.length cap7] ∧ Own 0 w' 40 1 a7 tt.kids.length cap7 xs ∧ ∀ b, blk a7 b → wx.heap.size ≤ b ∧ ∃ cur, Rw w' b cur 40) (v := t 26) (hcJ 8 (by decide) (by decide)) rfl rfl; try dsimp only at hx8
      obtain ⟨a8, cap8, hq8, ho8, hl8⟩ := hx8
      obtain ⟨b13, he13, hg13, r13⟩ := Go.Shr.CK_new (v := t 13) (hcJ 9 (by decide) (by decide)) rfl
      clear hcJ hdJ
      refine hG.out ?_
      clear hG G
      refine Go.Shr.wpAny_of_F (S := fun _ => True) (F := [10]) _ _ _ _ ?_
      simp only [Go.Shr.frOf, List.foldl_cons, List.foldl_nil, Act.put, List.setIfInBounds_toArray, List.set_cons_zero, List.set_cons_succ, ht18, ht19, ht20, ht21, hq4, ht23, ht24, hq7, hq8, he13]
      clear ht18 ht19 ht20 ht21 hq4 ht23 ht24 hq7 hq8 he13
      have HB : Below wx.heap.size wx w := bt (b0 wx).drew HJB
      refine (show Go.Shr.wpAnyF _ _ _ _ _ _ 1 (Go.Shr.listF 11 [10]) _ _ from ?_)
      have hHeld : True := trivial
      refine Go.Shr.wpAnyF_ready [10] (by kernel_rfl) (by simp) ?_
      refine Go.Shr.AllReadyF.last 10 (o := { dst := none, op := Go.Op.store 25 (Go.Operand.tmp 13) (Go.Operand.tmp 26), type := 0, pos := "law.go:131", after := #[{ on := 9, ground := Go.Ground.data }, { on := 8, ground := Go.Ground.data }, { on := 7, ground := Go.Ground.chain }, { on := 0, ground := Go.Ground.phase }, { on := 1, ground := Go.Ground.phase }, { on := 2, ground := Go.Ground.phase }, { on := 3, ground := Go.Ground.phase }, { on := 4, ground := Go.Ground.phase }, { on := 5, ground := Go.Ground.phase }, { on := 6, ground := Go.Ground.phase }, { on := 7, ground := Go.Ground.phase }, { on := 8, ground := Go.Ground.phase }, { on := 9, ground := Go.Ground.phase }], guard := none }) rfl (by kernel_rfl) (fun K hK => ?g1ro10) ?g1rm10
      case g1rm10 => exact Go.Shr.AllReadyF.nil
      (have y0 : w.cell? ⟨b13, 0, none⟩ = some (.int .i64 0) := r13.cell 0); (have y1 : w.cell? ⟨b13, 1, none⟩ = some (.string ByteArray.empty) := r13.cell 1); (have y2 : w.cell? ⟨b13, 2, none⟩ = some (.slice none 0 0) := r13.cell 2); (have qf := r13.frozen); (have ql := r13.lt); go_simp; clear y0 y1 y2 qf ql
      refine hK.out _ _ ?_
      clear hK K
      try simp only [Act.put, List.setIfInBounds_toArray, List.set_cons_zero, List.set_cons_succ]
      refine Go.Shr.wpAnyF_done (by kernel_rfl) ?_
      have hne : ∀ b, blk a8 b → wx.heap.size ≤ b ∧ b ≠ b13 := fun b hb => ⟨(hl8 b hb).1, fun e => by
        obtain ⟨cur, hr⟩ := (hl8 b hb).2
        subst e
        have h := r13.symm.trans hr
        simp at h⟩
      have hch : Chg (fun b => b = b13) w (((w.setCell ⟨b13, 0, none⟩ (.int .i64 tt.n)).setCell ⟨b13, 1, none⟩ (.string tt.s)).setCell ⟨b13, 2, none⟩ (.slice a8 tt.kids.length cap8)) := (((Chg.refl (fun b => b = b13) w).setCell (p := ⟨b13, 0, none⟩) (.inr rfl) _).setCell (p := ⟨b13, 1, none⟩) (.inr rfl) _).setCell (p := ⟨b13, 2, none⟩) (.inr rfl) _
      have hKx : KidG ok wx tt.kids xs := HK.out.go (Chg.ofBelow HBX.out) (fun k hk h => ⟨by omega, h⟩)
      have hc : Chg (fun b => wx.heap.size ≤ b) wx (((w.setCell ⟨b13, 0, none⟩ (.int .i64 tt.n)).setCell ⟨b13, 1, none⟩ (.string tt.s)).setCell ⟨b13, 2, none⟩ (.slice a8 tt.kids.length cap8)) := (Chg.ofBelow HB).trans hch (fun i hi h => by have h' : i = b13 := h; omega)
      have hok : GKid ok 40 (((w.setCell ⟨b13, 0, none⟩ (.int .i64 tt.n)).setCell ⟨b13, 1, none⟩ (.string tt.s)).setCell ⟨b13, 2, none⟩ (.slice a8 tt.kids.length cap8)) a8 tt.kids.length cap8 tt.kids xs := by
        refine ⟨ho8.chg hch (fun k hk => (hne k hk).2), KidG.go hc (fun k hk h => ⟨by omega, h, fun hb => by have := (hne k hb).1; omega⟩) hKx, fun b hb => ?_, rfl⟩
        obtain ⟨cur, hr⟩ := (hl8 b hb).2
        simpa using hr.lt
      go_wp2_with fail
      go_meet
      case rel => exact ⟨b13, a8, cap8, rfl, hg13, Lib.hid r13.set3, Lib.hid hok, Lib.hid hne, Lib.hid (hc.below (Nat.le_refl _) (fun i hi h => by omega))⟩
  case rest =>
    obtain ⟨b13, a7, cap7, rfl, hb13, HR13, HOK, HNE, HB⟩ := hcut
    have HBW := Lib.hid (bt HBX.out HB.out)
    have HR6' := Lib.hid (HR6.out.below HB.out)
    have HR12' := Lib.hid (HR12.out.below HB.out)
    have HAW := Lib.hid (slb HA.out HBW.out)
    have HSW := Lib.hid (slb (HS.out.mono (fun k hk _ => hk) (by decide)) HBW.out)
    have hszw := HB.out.size
    clear HR6 HR12
    apply_assumption
    refine wp_seq_k (fun K hK => ?_)
    go_cut [14] from 27 to 55 (fun v14 wd => Hid (turnT ats which n s f i tt = baseT which n s tt) ∧ Hid (Chg (fun _ => False) wc wd))
    case first =>
      have z2 : wc.cell? ⟨w.heap.size, 2, none⟩ = some (.slice a tt.kids.length cap) := HR6'.out.cell 2
      by_cases hf0 : f = 0
      · have hi6 : ¬ (i : Int) < 6 := by omega
        have HE : Hid (turnT ats which n s f i tt = baseT which n s tt) := Lib.hid (by subst hf0; rfl)
        clear hf0
        by_cases hia : (i : Int) < (an : Int)
        · go_wp2_with fail
          go_meet
          case rel => exact ⟨HE, Lib.hid (Chg.refl _ _)⟩
        · go_wp2_with fail
          go_meet
          case rel => exact ⟨HE, Lib.hid (Chg.refl _ _)⟩
      · obtain ⟨f', rfl⟩ : ∃ f', f = f' + 1 := ⟨f - 1, by omega⟩
        have hi6 : (i : Int) < 6 := by omega
        clear hf0
        by_cases hia : i < an
        · have hia' : (i : Int) < (an : Int) := by omega
          by_cases hk0 : tt.kids.length = 0
          · have HE : Hid (turnT ats which n s (f' + 1) i tt = baseT which n s tt) := Lib.hid (by rw [turnT, if_neg (by omega)])
            rw [hk0] at z2
            have hk0' : ¬ (0 : Int) < (tt.kids.length : Int) := by omega
            clear hk0
            go_wp2_with fail
            go_meet
            case rel => exact ⟨HE, Lib.hid (Chg.refl _ _)⟩
          · have hk0' : (0 : Int) < (tt.kids.length : Int) := by omega
            obtain ⟨ab, aoff, hab, hab2, hac⟩ := HAW.out.pos (by omega)
            have hil : i < ats.length := by omega
            have c0 := hac _ _ (ints_get ats i hil)
            have hwf := HW.out _ (List.getElem_mem hil)
            have hgd : ats.getD i 0 = ats[i] := by rw [List.getD_eq_getElem?_getD, List.getElem?_eq_getElem hil]; rfl
            have HGD := Lib.hid hgd
            generalize ats[i] = x at *
            have hx1 : -9223372036854775808 ≤ x ∧ x ≤ 9223372036854775807 := by
              simp [Lit.wf, IntKind.min, IntKind.max, IntKind.bits, IntKind.signed] at hwf; omega
            have m1 := Int.emod_nonneg x (show (tt.kids.length : Int) ≠ 0 by omega)
            have m2 := Int.emod_lt_of_pos x hk0'
            obtain ⟨k, hkx⟩ : ∃ k : Nat, x % (tt.kids.length : Int) = (k : Int) := ⟨(x % (tt.kids.length : Int)).toNat, by omega⟩
            have hkk : k < tt.kids.length := by omega
            have HKO : Hid (kOf ats i tt = k) := Lib.hid (by rw [kOf, hgd, hkx, Int.toNat_natCast])
            obtain ⟨xb, xoff, hxa, hxb, hxc⟩ := HSW.out.pos (by omega)
            obtain ⟨la, lcap, ys, g0, hys, hrow⟩ := HK.out.get k hkk
            have g0w := hxc _ _ g0
            have hth := ThinK.get (by cases tt; have h := HTH.out; simp only [Thin] at h; exact h.2) k hkk
            have hkd : tt.kids.getD k [] = tt.kids[k] := by rw [List.getD_eq_getElem?_getD, List.getElem?_eq_getElem hkk]; rfl
            have HKD := Lib.hid hkd
            generalize tt.kids[k] = l at *
            have HYS := Lib.hid hys; have HROW := Lib.hid hrow; have HTHL := Lib.hid hth.2
            have hl1000 := hth.1
            have HKX := Lib.hid hkx
            have HAB := Lib.hid hab; have HXA := Lib.hid hxa
            clear hac hwf hgd hxc hys hrow hth hkd hkx m1 m2 g0 hab hxa
            have HXAo := HXA.out
            have HABo := HAB.out
            subst HXAo
            subst HABo
            have hi0 : (0 : Int) ≤ (i : Int) := by omega
            have hk0n : (0 : Int) ≤ (k : Int) := by omega
            have hkin : (k : Int) < (tt.kids.length : Int) := by omega
            have HCC := Lib.hid (And.intro c0 (And.intro z2 g0w))
            go_wp2_with fail
            refine Go.Shr.wp_region_F (fun w' => w'.cell? ⟨ab, aoff + i, none⟩ = some (.int .i64 x) ∧ w'.cell? ⟨w.heap.size, 2, none⟩ = some (.slice (some ⟨xb, xoff, none⟩) tt.kids.length cap)) [8] (by kernel_rfl) ?g2rgS (fun hHeld => ?g2rgR)
            case g2rgS => (try dsimp only); (first | exact ⟨HCC.out.1, HCC.out.2.1⟩ | exact hHeld)
            try dsimp only at hHeld
            refine Go.Shr.wpAnyF_take 0 (oi := { dst := some 41, op := Go.Op.move (Go.Operand.tmp 1), type := 22, pos := "law.go:133", after := #[], guard := none }) (v := ?g2rv1) rfl (by kernel_rfl) (fun _ _ _ h => h) (by assumption) (by rfl) ?g2ry1 ?g2rr1
            case g2ry1 => intro w hSw; obtain ⟨s1, s2⟩ := hSw; go_simp; try with_reducible rfl
            try simp only [Act.put, List.setIfInBounds_toArray, List.set_cons_zero, List.set_cons_succ]
            refine Go.Shr.wpAnyF_take 1 (oi := { dst := some 42, op := Go.Op.move (Go.Operand.tmp 2), type := 3, pos := "law.go:133", after := #[], guard := none }) (v := ?g2rv2) rfl (by kernel_rfl) (fun _ _ _ h => h) (by assumption) (by rfl) ?g2ry2 ?g2rr2
            case g2ry2 => intro w hSw; obtain ⟨s1, s2⟩ := hSw; go_simp; try with_reducible rfl
            try simp only [Act.put, List.setIfInBounds_toArray, List.set_cons_zero, List.set_cons_succ]
            refine Go.Shr.wpAnyF_take 2 (oi := { dst := some 43, op := Go.Op.indexAddr 22 (Go.Operand.tmp 41) (Go.Operand.tmp 42), type := 0, pos := "law.go:133", after := #[{ on := 0, ground := Go.Ground.data }, { on := 1, ground := Go.Ground.data }], guard := none }) (v := ?g2rv3) rfl (by kernel_rfl) (fun _ _ _ h => h) (by assumption) (by rfl) ?g2ry3 ?g2rr3
            case g2ry3 => intro w hSw; obtain ⟨s1, s2⟩ := hSw; go_simp; try with_reducible rfl
            try simp only [Act.put, List.setIfInBounds_toArray, List.set_cons_zero, List.set_cons_succ]
            refine Go.Shr.wpAnyF_take 3 (oi := { dst := some 44, op := Go.Op.load 3 (Go.Operand.tmp 43), type := 3, pos := "law.go:133", after := #[{ on := 2, ground := Go.Ground.data }], guard := none }) (v := ?g2rv4) rfl (by kernel_rfl) (fun _ _ _ h => h) (by assumption) (by rfl) ?g2ry4 ?g2rr4
            case g2ry4 => intro w hSw; obtain ⟨s1, s2⟩ := hSw; go_simp; try with_reducible rfl
            try simp only [Act.put, List.setIfInBounds_toArray, List.set_cons_zero, List.set_cons_succ]
            refine Go.Shr.wpAnyF_take 4 (oi := { dst := some 45, op := Go.Op.fieldAddr 25 (Go.Operand.tmp 6) 2, type := 0, pos := "law.go:133", after := #[], guard := none }) (v := ?g2rv5) rfl (by kernel_rfl) (fun _ _ _ h => h) (by assumption) (by rfl) ?g2ry5 ?g2rr5
            case g2ry5 => intro w hSw; obtain ⟨s1, s2⟩ := hSw; go_simp; try with_reducible rfl
            try simp only [Act.put, List.setIfInBounds_toArray, List.set_cons_zero, List.set_cons_succ]
            refine Go.Shr.wpAnyF_take 5 (oi := { dst := some 46, op := Go.Op.load 23 (Go.Operand.tmp 45), type := 23, pos := "law.go:133", after := #[{ on := 4, ground := Go.Ground.data }], guard := none }) (v := ?g2rv6) rfl (by kernel_rfl) (fun _ _ _ h => h) (by assumption) (by rfl) ?g2ry6 ?g2rr6
            case g2ry6 => intro w hSw; obtain ⟨s1, s2⟩ := hSw; go_simp; try with_reducible rfl
            try simp only [Act.put, List.setIfInBounds_toArray, List.set_cons_zero, List.set_cons_succ]
            refine Go.Shr.wpAnyF_take 6 (oi := { dst := some 47, op := Go.Op.call { callee := Go.Callee.builtin Go.Builtin.len, args := #[Go.Operand.tmp 46], argTypes := #[23] }, type := 3, pos := "law.go:133", after := #[{ on := 5, ground := Go.Ground.data }], guard := none }) (v := ?g2rv7) rfl (by kernel_rfl) (fun _ _ _ h => h) (by assumption) (by rfl) ?g2ry7 ?g2rr7
            case g2ry7 => intro w hSw; obtain ⟨s1, s2⟩ := hSw; go_simp; try with_reducible rfl
            try simp only [Act.put, List.setIfInBounds_toArray, List.set_cons_zero, List.set_cons_succ]
            refine Go.Shr.wpAnyF_ready [7] (by kernel_rfl) (by simp) ?_
            refine Go.Shr.AllReadyF.cons 7 (o := { dst := some 48, op := Go.Op.call { callee := Go.Callee.value (Go.Operand.func 17), args := #[Go.Operand.tmp 44, Go.Operand.tmp 47], argTypes := #[3, 3] }, type := 3, pos := "law.go:133", after := #[{ on := 3, ground := Go.Ground.data }, { on := 6, ground := Go.Ground.data }], guard := none }) rfl (fun K hK => ?g2ro8) ?g2rm8
            case g2rm8 => exact Go.Shr.AllReadyF.nil
            go_simp; refine (within_8 x (tt.kids.length : Int) _ hk0' (by omega)).mono ?_; rintro e w9 ⟨rfl, rfl⟩; rw [HKX.out]; dsimp only
            refine hK.out _ _ ?g2rs8 (fun hHeld => ?g2rt8)
            case g2rs8 => (try dsimp only); (first | exact ⟨HCC.out.1, HCC.out.2.1⟩ | exact hHeld)
            try dsimp only at hHeld
            clear hK K
            try simp only [Act.put, List.setIfInBounds_toArray, List.set_cons_zero, List.set_cons_succ]
            refine Go.Shr.wpAnyF_ready [8] (by kernel_rfl) (by simp) ?_
            refine Go.Shr.AllReadyF.last 8 (o := { dst := some 14, op := Go.Op.assign (Go.Operand.tmp 48), type := 3, pos := "law.go:133", after := #[{ on := 7, ground := Go.Ground.data }, { on := 7, ground := Go.Ground.chain }, { on := 0, ground := Go.Ground.phase }, { on := 1, ground := Go.Ground.phase }, { on := 2, ground := Go.Ground.phase }, { on := 3, ground := Go.Ground.phase }, { on := 4, ground := Go.Ground.phase }, { on := 5, ground := Go.Ground.phase }, { on := 6, ground := Go.Ground.phase }, { on := 7, ground := Go.Ground.phase }], guard := none }) rfl (by kernel_rfl) (fun K hK => ?g2ro9) ?g2rm9
            case g2rm9 => exact Go.Shr.AllReadyF.nil
            go_simp
            refine hK.out _ _ ?_
            clear hK K
            try simp only [Act.put, List.setIfInBounds_toArray, List.set_cons_zero, List.set_cons_succ]
            refine Go.Shr.wpAnyF_done (by kernel_rfl) ?_
            clear hHeld
            by_cases hl0 : l.length = 0
            · have HE : Hid (turnT ats which n s (f' + 1) i tt = baseT which n s tt) := Lib.hid (by rw [turnT, if_neg (by rw [HKO.out, HKD.out]; omega)])
              rw [hl0] at g0w
              clear hl0
              go_wp2_with fail
              go_meet
              case rel => exact ⟨HE, Lib.hid (Chg.refl _ _).drew⟩
            · have hl0' : (0 : Int) < (l.length : Int) := by omega
              have EW : Hid (IntKind.i64.wrap (x.tdiv 16) = x.tdiv 16) := Lib.hid (IntWalk.i64_in _ ⟨(tdiv16 x hx1).1, (tdiv16 x hx1).2⟩)
              have q1 := Int.emod_nonneg (x.tdiv 16) (show (l.length : Int) ≠ 0 by omega)
              have q2 := Int.emod_lt_of_pos (x.tdiv 16) hl0'
              obtain ⟨j, hjx⟩ : ∃ j : Nat, x.tdiv 16 % (l.length : Int) = (j : Int) := ⟨(x.tdiv 16 % (l.length : Int)).toNat, by omega⟩
              have hjl : j < l.length := by omega
              have HJO : Hid (jOf ats i tt = j) := Lib.hid (by rw [jOf, HGD.out, HKO.out, HKD.out, hjx, Int.toNat_natCast])
              have hjd : l.getD j zeroT = l[j] := by rw [List.getD_eq_getElem?_getD, List.getElem?_eq_getElem hjl]; rfl
              have HE : Hid (turnT ats which n s (f' + 1) i tt = .mk tt.n tt.s (tt.kids.set k (l.set j (turnT ats which n s f' (i + 1) l[j])))) := Lib.hid (by
                rw [turnT, if_pos (by rw [HKO.out, HKD.out]; omega), HKO.out, HKD.out, HJO.out, hjd])
              have HJX := Lib.hid hjx
              clear q1 q2 hjx hjd hl0
              have hwr := EW.out
              go_wp2_with fail
              refine Go.Shr.wp_region_F (fun w' => w'.cell? ⟨ab, aoff + i, none⟩ = some (.int .i64 x) ∧ w'.cell? ⟨w.heap.size, 2, none⟩ = some (.slice (some ⟨xb, xoff, none⟩) tt.kids.length cap) ∧ w'.cell? ⟨xb, xoff + k, none⟩ = some (.slice la l.length lcap)) [12] (by kernel_rfl) ?g3rgS (fun hHeld => ?g3rgR)
              case g3rgS => (try dsimp only); (first | exact HCC.out | exact hHeld)
              try dsimp only at hHeld
              refine Go.Shr.wpAnyF_take 0 (oi := { dst := some 56, op := Go.Op.move (Go.Operand.tmp 1), type := 22, pos := "law.go:135", after := #[], guard := none }) (v := ?g3rv1) rfl (by kernel_rfl) (fun _ _ _ h => h) (by assumption) (by rfl) ?g3ry1 ?g3rr1
              case g3ry1 => intro w hSw; obtain ⟨s1, s2, s3⟩ := hSw; go_simp; try with_reducible rfl
              try simp only [Act.put, List.setIfInBounds_toArray, List.set_cons_zero, List.set_cons_succ]
              refine Go.Shr.wpAnyF_take 1 (oi := { dst := some 57, op := Go.Op.move (Go.Operand.tmp 2), type := 3, pos := "law.go:135", after := #[], guard := none }) (v := ?g3rv2) rfl (by kernel_rfl) (fun _ _ _ h => h) (by assumption) (by rfl) ?g3ry2 ?g3rr2
              case g3ry2 => intro w hSw; obtain ⟨s1, s2, s3⟩ := hSw; go_simp; try with_reducible rfl
              try simp only [Act.put, List.setIfInBounds_toArray, List.set_cons_zero, List.set_cons_succ]
              refine Go.Shr.wpAnyF_take 2 (oi := { dst := some 58, op := Go.Op.indexAddr 22 (Go.Operand.tmp 56) (Go.Operand.tmp 57), type := 0, pos := "law.go:135", after := #[{ on := 0, ground := Go.Ground.data }, { on := 1, ground := Go.Ground.data }], guard := none }) (v := ?g3rv3) rfl (by kernel_rfl) (fun _ _ _ h => h) (by assumption) (by rfl) ?g3ry3 ?g3rr3
              case g3ry3 => intro w hSw; obtain ⟨s1, s2, s3⟩ := hSw; go_simp; try with_reducible rfl
              try simp only [Act.put, List.setIfInBounds_toArray, List.set_cons_zero, List.set_cons_succ]
              refine Go.Shr.wpAnyF_take 3 (oi := { dst := some 59, op := Go.Op.load 3 (Go.Operand.tmp 58), type := 3, pos := "law.go:135", after := #[{ on := 2, ground := Go.Ground.data }], guard := none }) (v := ?g3rv4) rfl (by kernel_rfl) (fun _ _ _ h => h) (by assumption) (by rfl) ?g3ry4 ?g3rr4
              case g3ry4 => intro w hSw; obtain ⟨s1, s2, s3⟩ := hSw; go_simp; try with_reducible rfl
              try simp only [Act.put, List.setIfInBounds_toArray, List.set_cons_zero, List.set_cons_succ]
              refine Go.Shr.wpAnyF_take 4 (oi := { dst := some 60, op := Go.Op.binOp Go.BinOp.quo 3 (Go.Operand.tmp 59) (Go.Operand.const (Go.Value.int Go.IntKind.i64 16)) 3, type := 3, pos := "law.go:135", after := #[{ on := 3, ground := Go.Ground.data }], guard := none }) (v := ?g3rv5) rfl (by kernel_rfl) (fun _ _ _ h => h) (by assumption) (by rfl) ?g3ry5 ?g3rr5
              case g3ry5 => intro w hSw; obtain ⟨s1, s2, s3⟩ := hSw; go_simp; try with_reducible rfl
              try simp only [Act.put, List.setIfInBounds_toArray, List.set_cons_zero, List.set_cons_succ]
              refine Go.Shr.wpAnyF_take 5 (oi := { dst := some 61, op := Go.Op.fieldAddr 25 (Go.Operand.tmp 6) 2, type := 0, pos := "law.go:135", after := #[], guard := none }) (v := ?g3rv6) rfl (by kernel_rfl) (fun _ _ _ h => h) (by assumption) (by rfl) ?g3ry6 ?g3rr6
              case g3ry6 => intro w hSw; obtain ⟨s1, s2, s3⟩ := hSw; go_simp; try with_reducible rfl
              try simp only [Act.put, List.setIfInBounds_toArray, List.set_cons_zero, List.set_cons_succ]
              refine Go.Shr.wpAnyF_take 6 (oi := { dst := some 62, op := Go.Op.load 23 (Go.Operand.tmp 61), type := 23, pos := "law.go:135", after := #[{ on := 5, ground := Go.Ground.data }], guard := none }) (v := ?g3rv7) rfl (by kernel_rfl) (fun _ _ _ h => h) (by assumption) (by rfl) ?g3ry7 ?g3rr7
              case g3ry7 => intro w hSw; obtain ⟨s1, s2, s3⟩ := hSw; go_simp; try with_reducible rfl
              try simp only [Act.put, List.setIfInBounds_toArray, List.set_cons_zero, List.set_cons_succ]
              refine Go.Shr.wpAnyF_take 7 (oi := { dst := some 63, op := Go.Op.move (Go.Operand.tmp 14), type := 3, pos := "law.go:135", after := #[], guard := none }) (v := ?g3rv8) rfl (by kernel_rfl) (fun _ _ _ h => h) (by assumption) (by rfl) ?g3ry8 ?g3rr8
              case g3ry8 => intro w hSw; obtain ⟨s1, s2, s3⟩ := hSw; go_simp; try with_reducible rfl
              try simp only [Act.put, List.setIfInBounds_toArray, List.set_cons_zero, List.set_cons_succ]
              refine Go.Shr.wpAnyF_take 8 (oi := { dst := some 64, op := Go.Op.indexAddr 23 (Go.Operand.tmp 62) (Go.Operand.tmp 63), type := 0, pos := "law.go:135", after := #[{ on := 6, ground := Go.Ground.data }, { on := 7, ground := Go.Ground.data }], guard := none }) (v := ?g3rv9) rfl (by kernel_rfl) (fun _ _ _ h => h) (by assumption) (by rfl) ?g3ry9 ?g3rr9
              case g3ry9 => intro w hSw; obtain ⟨s1, s2, s3⟩ := hSw; go_simp; try with_reducible rfl
              try simp only [Act.put, List.setIfInBounds_toArray, List.set_cons_zero, List.set_cons_succ]
              refine Go.Shr.wpAnyF_take 9 (oi := { dst := some 65, op := Go.Op.load 40 (Go.Operand.tmp 64), type := 40, pos := "law.go:135", after := #[{ on := 8, ground := Go.Ground.data }], guard := none }) (v := ?g3rv10) rfl (by kernel_rfl) (fun _ _ _ h => h) (by assumption) (by rfl) ?g3ry10 ?g3rr10
              case g3ry10 => intro w hSw; obtain ⟨s1, s2, s3⟩ := hSw; go_simp; try with_reducible rfl
              try simp only [Act.put, List.setIfInBounds_toArray, List.set_cons_zero, List.set_cons_succ]
              refine Go.Shr.wpAnyF_take 10 (oi := { dst := some 66, op := Go.Op.call { callee := Go.Callee.builtin Go.Builtin.len, args := #[Go.Operand.tmp 65], argTypes := #[40] }, type := 3, pos := "law.go:135", after := #[{ on := 9, ground := Go.Ground.data }], guard := none }) (v := ?g3rv11) rfl (by kernel_rfl) (fun _ _ _ h => h) (by assumption) (by rfl) ?g3ry11 ?g3rr11
              case g3ry11 => intro w hSw; obtain ⟨s1, s2, s3⟩ := hSw; go_simp; try with_reducible rfl
              try simp only [Act.put, List.setIfInBounds_toArray, List.set_cons_zero, List.set_cons_succ]
              refine Go.Shr.wpAnyF_ready [11] (by kernel_rfl) (by simp) ?_
              refine Go.Shr.AllReadyF.cons 11 (o := { dst := some 67, op := Go.Op.call { callee := Go.Callee.value (Go.Operand.func 17), args := #[Go.Operand.tmp 60, Go.Operand.tmp 66], argTypes := #[3, 3] }, type := 3, pos := "law.go:135", after := #[{ on := 4, ground := Go.Ground.data }, { on := 10, ground := Go.Ground.data }], guard := none }) rfl (fun K hK => ?g3ro12) ?g3rm12
              case g3rm12 => exact Go.Shr.AllReadyF.nil
              go_simp; refine (within_8 (x.tdiv 16) (l.length : Int) _ hl0' (by omega)).mono ?_; rintro e w9 ⟨rfl, rfl⟩; rw [HJX.out]; dsimp only
              refine hK.out _ _ ?g3rs12 (fun hHeld => ?g3rt12)
              case g3rs12 => (try dsimp only); (first | exact HCC.out | exact hHeld)
              try dsimp only at hHeld
              clear hK K
              try simp only [Act.put, List.setIfInBounds_toArray, List.set_cons_zero, List.set_cons_succ]
              refine Go.Shr.wpAnyF_ready [12] (by kernel_rfl) (by simp) ?_
              refine Go.Shr.AllReadyF.last 12 (o := { dst := some 15, op := Go.Op.assign (Go.Operand.tmp 67), type := 3, pos := "law.go:135", after := #[{ on := 11, ground := Go.Ground.data }, { on := 11, ground := Go.Ground.chain }, { on := 0, ground := Go.Ground.phase }, { on := 1, ground := Go.Ground.phase }, { on := 2, ground := Go.Ground.phase }, { on := 3, ground := Go.Ground.phase }, { on := 4, ground := Go.Ground.phase }, { on := 5, ground := Go.Ground.phase }, { on := 6, ground := Go.Ground.phase }, { on := 7, ground := Go.Ground.phase }, { on := 8, ground := Go.Ground.phase }, { on := 9, ground := Go.Ground.phase }, { on := 10, ground := Go.Ground.phase }, { on := 11, ground := Go.Ground.phase }], guard := none }) rfl (by kernel_rfl) (fun K hK => ?g3ro13) ?g3rm13
              case g3rm13 => exact Go.Shr.AllReadyF.nil
              go_simp
              refine hK.out _ _ ?_
              clear hK K
              try simp only [Act.put, List.setIfInBounds_toArray, List.set_cons_zero, List.set_cons_succ]
              refine Go.Shr.wpAnyF_done (by kernel_rfl) ?_
              clear hwr hHeld
              have hzw : wc.heap.size < (wc.alloc (.cells #[] 25)).heap.size := by simp
              have HSRC := Lib.hid (((((HYS.out.mono (ok' := fun b => b < w.heap.size) (fun k hk _ => hk) (by decide)).mono (ok' := fun b => b < w.heap.size) (fun k hk _ => hk) (by decide)).below HBW.out).alloc (.cells #[] 25)).drew.drew.src (P := Try.prog) (tx := 40) Try.underlying40 (RowG.one' HROW.out))
              have z2a : (wc.alloc (.cells #[] 25)).cell? ⟨w.heap.size, 2, none⟩ = some (.slice (some ⟨xb, xoff, none⟩) tt.kids.length cap) := ((ba (b0 wc) _).cell (p := ⟨w.heap.size, 2, none⟩) HR6'.out.lt).trans HCC.out.2.1
              have g0a : (wc.alloc (.cells #[] 25)).cell? ⟨xb, xoff + k, none⟩ = some (.slice la l.length lcap) := ((ba (b0 wc) _).cell (p := ⟨xb, xoff + k, none⟩) (show xb < wc.heap.size by omega)).trans HCC.out.2.2
              go_upto_region 7 with (first
                | (at_builtin; refine wpList_fresh (B := 0) rfl _ _ _ _ rfl it (.agg #[.int .i64 0, .string ByteArray.empty, .slice none 0 0]) 48 Try.underlying40 hit hz0t hz1t hz2t rfl rfl _ rfl _ _ HSRC.out (by simp only [maxLen]; omega) (by omega) (Nat.zero_le _) ?_; intro a5 cap5 w5 ho5 hb5 hn5; (have HO5 := Lib.hid ho5); (have HB5 := Lib.hid (bt (show Below wc.heap.size wc _ from (ba (b0 wc) _).drew.drew) hb5)); (have HN5 := Lib.hid hn5); clear ho5 hb5 hn5 z2 c0 g0w)
                | (at_builtin; refine wpList_fresh (B := 0) rfl _ _ _ _ rfl it (.agg #[.int .i64 0, .string ByteArray.empty, .slice none 0 0]) 48 Try.underlying40 hit hz0t hz1t hz2t rfl rfl _ rfl _ _ HSRC.out (by simp only [maxLen]; omega) (by omega) (Nat.zero_le _) ?_; intro a5 cap5 w5 ho5 hb5 hn5; go_loud (have HO5 := Lib.hid ho5); go_loud (have HB5 := Lib.hid (bt (show Below wc.heap.size wc _ from (ba (b0 wc) _).drew.drew) hb5)); go_loud (have HN5 := Lib.hid hn5); go_loud (clear ho5 hb5 hn5)))
              clear z2a g0a
              have hz5 := HB5.out.size
              have hzxx := HBX.out.size
              have hn5' : ∀ b, blk a5 b → wc.heap.size ≤ b := fun b hb => by
                rcases HN5.out b hb with ⟨_, _, e⟩ | h
                · cases e; exact Nat.le_refl _
                · simp at h; omega
              have HN5' := Lib.hid hn5'
              have hrow5 : RowG (fun b => (ok b ∨ wc.heap.size ≤ b) ∧ ¬ blk a5 b) w5 l ys := HROW.out.go (Chg.ofBelow (bt HBW.out HB5.out)) (fun b hb h => ⟨by omega, .inl h, fun h2 => by have := hn5' b h2; omega⟩)
              have hg5 : GRow (fun b => ok b ∨ wc.heap.size ≤ b) 25 w5 a5 l.length cap5 l ys := ⟨HO5.out, hrow5, fun b hb => (HO5.out.blt' (by omega) hb).2, rfl⟩
              have HG5 := Lib.hid hg5
              obtain ⟨g5, hga, hgb, hgc, hgd, hge⟩ := HO5.out.pos (by omega)
              obtain ⟨e0, e1, e2, u0, u1, u2, hte⟩ := hrow5.get j hjl
              have hte2 := HROW.out.get j hjl
              obtain ⟨e0', e1', e2', u0', u1', u2', hteo⟩ := hte2
              obtain ⟨xa, xm, xcap, xxs, hcs2, hxm, hxs, _, _⟩ := hteo.parts
              simp at hcs2
              obtain ⟨rfl, rfl, rfl⟩ := hcs2
              subst hxm
              have v0 := hgd _ _ u0'; have v1 := hgd _ _ u1'; have v2 := hgd _ _ u2'
              have htx : TrG ok w5 l[j] [.int .i64 l[j].n, .string l[j].s, .slice xa l[j].kids.length xcap] := hteo.go (Chg.ofBelow (bt HBW.out HB5.out)) (fun b hb h => ⟨by omega, h⟩)
              have hthx := HTHL.out.get j hjl
              have HTX := Lib.hid htx
              have HIH2 : Hid (TurnOk _ an ac ats which n s f' (i + 1)) := Lib.hid (HIH.out (by omega))
              generalize l[j] = x' at *
              have HGA := Lib.hid hga
              have hgc5 : g5 < w5.heap.size := hgc
              have hj0 : (0 : Int) ≤ (j : Int) := by omega
              have hjl' : (j : Int) < (l.length : Int) := by omega
              clear hgd hrow5 hg5 hte u0 u1 u2 u0' u1' u2' hteo htx hga hgb hn5' hzw
              have HGAo := HGA.out
              subst HGAo
              go_wp2_with fail
              refine (HIH2.out ok x' xa xcap w5 hthx HTX.out (fun b hb => by have := HOKB.out b hb; omega) (slb HA.out (bt HBW.out HB5.out))).mono ?_
              rintro e w6 ⟨a6, m6, cap6, rfl, ht6, hb6⟩
              generalize turnT ats which n s f' (i + 1) x' = u at *
              have hz6 := hb6.size
              have hs6 : ∀ k', w6.cell? ⟨g5, k', none⟩ = w5.cell? ⟨g5, k', none⟩ := fun k' => hb6.cell (p := ⟨g5, k', none⟩) hgc5
              have hfr6 : ∀ k', w6.frozen? ⟨g5, k', none⟩ = w5.frozen? ⟨g5, k', none⟩ := fun k' => hb6.frozen (p := ⟨g5, k', none⟩) hgc5
              have y0 := (hs6 _).trans v0; have y1 := (hs6 _).trans v1; have y2 := (hs6 _).trans v2
              have yf : ∀ k', w6.frozen? ⟨g5, k', none⟩ = false := fun k' => (hfr6 k').trans (hge k')
              have yl : g5 < w6.heap.size := by omega
              have hg6 := (HG5.out.below hb6).set rfl j (ht6.go (ok' := fun b => (ok b ∨ wc.heap.size ≤ b) ∧ ¬ blk (some ⟨g5, 0, none⟩) b) (Chg.refl (fun _ => False) w6) (fun b hb h => ⟨fun h => h, by rcases h with h | h; exact .inl h; exact .inr (by omega), fun h2 => by
                have h3 := HN5'.out b h2
                have h4 : b = g5 := by obtain ⟨_, _, e⟩ := h2; cases e; rfl
                rcases h with h | h
                · have := HOKB.out b h; omega
                · omega⟩))
              have hB7 : Below wc.heap.size wc (((w6.setCell ⟨g5, j * 3, none⟩ (.int .i64 u.n)).setCell ⟨g5, j * 3 + 1, none⟩ (.string u.s)).setCell ⟨g5, j * 3 + 2, none⟩ (.slice a6 m6 cap6)) := (((bt HB5.out hb6).setCell (p := ⟨g5, j * 3, none⟩) (HN5'.out _ ⟨_, _, rfl⟩) _).setCell (p := ⟨g5, j * 3 + 1, none⟩) (HN5'.out _ ⟨_, _, rfl⟩) _).setCell (p := ⟨g5, j * 3 + 2, none⟩) (HN5'.out _ ⟨_, _, rfl⟩) _
              go_upto_region 8 with fail
              generalize hw7 : (((w6.setCell ⟨g5, j * 3, none⟩ (.int .i64 u.n)).setCell ⟨g5, j * 3 + 1, none⟩ (.string u.s)).setCell ⟨g5, j * 3 + 2, none⟩ (.slice a6 m6 cap6)) = w7 at *
              clear hw7 y0 y1 y2 yf yl hs6 hfr6 v0 v1 v2 hge hgc hgc5 ht6 HG5 HTX
              have hok7 := (HOK.out.below hB7).mono (p' := fun b => ok b ∨ wx.heap.size ≤ b) (fun k hk h => Or.inl h)
              have hr13 := HR13.out.below hB7
              have hr12 := HR12'.out.below hB7
              obtain ⟨g7, h7a, h7b, h7c, h7d, h7e⟩ := hok7.own.pos (by omega)
              obtain ⟨h7n, h7m⟩ := HNE.out g7 ⟨_, _, h7a⟩
              have h7lt := HOK.out.lt g7 ⟨_, _, h7a⟩
              obtain ⟨_, _, _, zz, _, _⟩ := hok7.kid.get k hkk
              have y0 := h7d _ _ zz
              have y1 : w7.cell? ⟨b13, 2, none⟩ = some (.slice a7 tt.kids.length cap7) := hr13.cell 2
              have y2 := h7e k
              have hsl7 : Sl (fun b => (ok b ∨ wx.heap.size ≤ b) ∧ ¬ blk a7 b) w7 3 (some ⟨g5, 0, none⟩) l.length cap5 _ := hg6.own.sl.mono (fun b hb h2 => by
                have h3 := HN5'.out b h2.2.1
                exact ⟨.inr (by omega), fun h4 => by have := HOK.out.lt b h4; omega⟩) (by decide)
              have hrw7 : RowG (fun b => (ok b ∨ wx.heap.size ≤ b) ∧ ¬ blk a7 b) w7 (l.set j u) _ := hg6.row.go (Chg.refl (fun _ => False) w7) (fun b hb h2 => ⟨fun h => h, by
                rcases h2.1 with h | h
                · exact ⟨.inl h, fun h4 => by have := HNE.out b h4; have := HOKB.out b h; omega⟩
                · exact ⟨.inr (by omega), fun h4 => by have := HOK.out.lt b h4; omega⟩⟩)
              have hg8 := hok7.set h7a k (by simp) hsl7 hrw7
              subst h7a
              go_upto_region 9 with fail
              have hb8 : Below wx.heap.size wx (w7.setCell ⟨g7, k, none⟩ (.slice (some ⟨g5, 0, none⟩) l.length cap5)) := (bt HB.out hB7).setCell (p := ⟨g7, k, none⟩) h7n _
              have hq13 := hr13.other (p := ⟨g7, k, none⟩) (Ne.symm h7m) (.slice (some ⟨g5, 0, none⟩) l.length cap5)
              have hq12 := hr12.other (p := ⟨g7, k, none⟩) (show w.heap.size + 1 ≠ g7 by have := HZX.out; omega) (.slice (some ⟨g5, 0, none⟩) l.length cap5)
              generalize (w7.setCell ⟨g7, k, none⟩ (.slice (some ⟨g5, 0, none⟩) l.length cap5)) = w8 at *
              clear y0 y1 y2 hok7 hr13 hr12 hsl7 hrw7 hg6 zz h7d h7e
              have z0 : w8.cell? ⟨b13, 0, none⟩ = some (.int .i64 tt.n) := hq13.cell 0
              have z1 : w8.cell? ⟨b13, 1, none⟩ = some (.string tt.s) := hq13.cell 1
              have z2 : w8.cell? ⟨b13, 2, none⟩ = some (.slice (some ⟨g7, 0, none⟩) tt.kids.length cap7) := hq13.cell 2
              have y0 : w8.cell? ⟨w.heap.size + 1, 0, none⟩ = some (.int .i64 0) := hq12.cell 0
              have y1 : w8.cell? ⟨w.heap.size + 1, 1, none⟩ = some (.string ⟨#[]⟩) := hq12.cell 1
              have y2 : w8.cell? ⟨w.heap.size + 1, 2, none⟩ = some (.slice none 0 0) := hq12.cell 2
              have yf := hq12.frozen
              have yl := hq12.lt
              go_wp2_with fail
              clear z0 z1 z2 y0 y1 y2 yf yl
              rw [HE.out]
              have hq := hq12.set3 (u0 := .int .i64 tt.n) (u1 := .string tt.s) (u2 := .slice (some ⟨g7, 0, none⟩) tt.kids.length cap7)
              have z0 := hq.cell 0; have z1 := hq.cell 1; have z2 := hq.cell 2
              refine bodyPost_ret (v := .agg #[.int .i64 tt.n, .string tt.s, .slice (some ⟨g7, 0, none⟩) tt.kids.length cap7]) (by simp [results, Try.results16, go_sem, z0, z1, z2]) rfl ?_
              exact turn_fin HBX.out HZX.out hb8 hg8 (fun b hb => (HNE.out b hb).1) HOKB.out HT.out.parts.choose_spec.choose_spec.choose_spec.choose_spec.2.2.1
        · have HE : Hid (turnT ats which n s (f' + 1) i tt = baseT which n s tt) := Lib.hid (by rw [turnT, if_neg (by omega)])
          have hia' : ¬ (i : Int) < (an : Int) := by omega
          go_wp2_with fail
          go_meet
          case rel => exact ⟨HE, Lib.hid (Chg.refl _ _)⟩
    case rest =>
      obtain ⟨HE, HC⟩ := hcut
      have hszc := HC.out.size
      have hB := Chg.bt HB.out HC.out (fun i hi h => h.elim)
      have hr13 := HR13.out.chg HC.out (fun h => h)
      have hr12 := HR12'.out.chg HC.out (fun h => h)
      have hok := HOK.out.chg HC.out (fun k hk _ h => h)
      have hne12 : w.heap.size + 1 ≠ b13 := by have := HZX.out; omega
      clear HB HR13 HR12' HOK HR6' HAW HSW HBW HC
      have HOKC := Lib.hid hok; have HBC := Lib.hid hB
      clear hok hB
      have hts : tt.s.size ≤ maxLen := HT.out.parts.choose_spec.choose_spec.choose_spec.choose_spec.2.2.1
      have w0 : wc.cell? ⟨b13, 0, none⟩ = some (.int .i64 tt.n) := hr13.cell 0
      have w1 : wc.cell? ⟨b13, 1, none⟩ = some (.string tt.s) := hr13.cell 1
      have w2 : wc.cell? ⟨b13, 2, none⟩ = some (.slice a7 tt.kids.length cap7) := hr13.cell 2
      have wf := hr13.frozen
      have wl := hr13.lt
      go_wp2_with fail
      refine (within_8 which 6 _ (by decide) (by decide)).mono ?_
      rintro e w9 ⟨rfl, rfl⟩
      have hwh : which % 6 = 0 ∨ which % 6 = 1 ∨ which % 6 = 2 ∨ which % 6 = 3 ∨ which % 6 = 4 ∨ which % 6 = 5 := by omega
      rcases hwh with h6 | h6 | h6 | h6 | h6 | h6
      · have HBT : Hid (baseT which n s tt = .mk n tt.s tt.kids) := Lib.hid (by rw [baseT, if_pos h6])
        rw [h6]
        clear h6
        go_upto_region 27 with fail
        have hq13 : Rw (wc.setCell ⟨b13, 0, none⟩ (.int .i64 n)) b13 #[.int .i64 n, .string tt.s, .slice a7 tt.kids.length cap7] 25 := hr13.set 0 _
        have hq12 := hr12.other (p := ⟨b13, 0, none⟩) hne12 (.int .i64 n)
        have hb8 := HBC.out.setCell (p := ⟨b13, 0, none⟩) hb13 (.int .i64 n)
        have hg8 := (HOKC.out.chg (cset1 (Chg.refl (fun b => b = b13) wc) rfl (u0 := .int .i64 n)) (fun k hk h => by
          rcases h with h | h
          · have := HOKB.out k h; have := HBX.out.size; exact fun e => by have e' : k = b13 := e; omega
          · exact (HNE.out k h).2)).mono (p' := fun b => ok b ∨ wx.heap.size ≤ b) (fun k hk h => Or.inl h)
        clear w0 w1 w2 wf wl
        generalize (wc.setCell ⟨b13, 0, none⟩ (.int .i64 n)) = w8 at *
        have z0 : w8.cell? ⟨b13, 0, none⟩ = some (.int .i64 n) := hq13.cell 0
        have z1 : w8.cell? ⟨b13, 1, none⟩ = some (.string tt.s) := hq13.cell 1
        have z2 : w8.cell? ⟨b13, 2, none⟩ = some (.slice a7 tt.kids.length cap7) := hq13.cell 2
        have y0 : w8.cell? ⟨w.heap.size + 1, 0, none⟩ = some (.int .i64 0) := hq12.cell 0
        have y1 : w8.cell? ⟨w.heap.size + 1, 1, none⟩ = some (.string ⟨#[]⟩) := hq12.cell 1
        have y2 : w8.cell? ⟨w.heap.size + 1, 2, none⟩ = some (.slice none 0 0) := hq12.cell 2
        have yf := hq12.frozen
        have yl := hq12.lt
        go_wp2_with fail
        clear z0 z1 z2 y0 y1 y2 yf yl
        rw [HE.out]
        have hq := hq12.set3 (u0 := .int .i64 n) (u1 := .string tt.s) (u2 := .slice a7 tt.kids.length cap7)
        have z0 := hq.cell 0; have z1 := hq.cell 1; have z2 := hq.cell 2
        refine bodyPost_ret (v := .agg #[.int .i64 n, .string tt.s, .slice a7 tt.kids.length cap7]) (by simp [results, Try.results16, go_sem, z0, z1, z2]) rfl ?_
        rw [HBT.out]
        exact turn_fin HBX.out HZX.out hb8 hg8 (fun b hb => (HNE.out b hb).1) HOKB.out hts
      · have HBT : Hid (baseT which n s tt = .mk tt.n s tt.kids) := Lib.hid (by rw [baseT, if_neg (by omega), if_pos h6])
        rw [h6]
        clear h6
        go_upto_region 27 with fail
        have hq13 : Rw (wc.setCell ⟨b13, 1, none⟩ (.string s)) b13 #[.int .i64 tt.n, .string s, .slice a7 tt.kids.length cap7] 25 := hr13.set 1 _
        have hq12 := hr12.other (p := ⟨b13, 1, none⟩) hne12 (.string s)
        have hb8 := HBC.out.setCell (p := ⟨b13, 1, none⟩) hb13 (.string s)
        have hg8 := (HOKC.out.chg ((Chg.refl (fun b => b = b13) wc).setCell (p := ⟨b13, 1, none⟩) (.inr rfl) (.string s)) (fun k hk h => by
          rcases h with h | h
          · have := HOKB.out k h; have := HBX.out.size; exact fun e => by have e' : k = b13 := e; omega
          · exact (HNE.out k h).2)).mono (p' := fun b => ok b ∨ wx.heap.size ≤ b) (fun k hk h => Or.inl h)
        clear w0 w1 w2 wf wl
        generalize (wc.setCell ⟨b13, 1, none⟩ (.string s)) = w8 at *
        have z0 : w8.cell? ⟨b13, 0, none⟩ = some (.int .i64 tt.n) := hq13.cell 0
        have z1 : w8.cell? ⟨b13, 1, none⟩ = some (.string s) := hq13.cell 1
        have z2 : w8.cell? ⟨b13, 2, none⟩ = some (.slice a7 tt.kids.length cap7) := hq13.cell 2
        have y0 : w8.cell? ⟨w.heap.size + 1, 0, none⟩ = some (.int .i64 0) := hq12.cell 0
        have y1 : w8.cell? ⟨w.heap.size + 1, 1, none⟩ = some (.string ⟨#[]⟩) := hq12.cell 1
        have y2 : w8.cell? ⟨w.heap.size + 1, 2, none⟩ = some (.slice none 0 0) := hq12.cell 2
        have yf := hq12.frozen
        have yl := hq12.lt
        go_wp2_with fail
        clear z0 z1 z2 y0 y1 y2 yf yl
        rw [HE.out]
        have hq := hq12.set3 (u0 := .int .i64 tt.n) (u1 := .string s) (u2 := .slice a7 tt.kids.length cap7)
        have z0 := hq.cell 0; have z1 := hq.cell 1; have z2 := hq.cell 2
        refine bodyPost_ret (v := .agg #[.int .i64 tt.n, .string s, .slice a7 tt.kids.length cap7]) (by simp [results, Try.results16, go_sem, z0, z1, z2]) rfl ?_
        rw [HBT.out]
        exact turn_fin HBX.out HZX.out hb8 hg8 (fun b hb => (HNE.out b hb).1) HOKB.out hss
      · have HBT : Hid (baseT which n s tt = .mk tt.n tt.s (tt.kids ++ [[]])) := Lib.hid (by rw [baseT, if_neg (by omega), if_neg (by omega), if_pos h6])
        rw [h6]
        clear h6
        have SRC := Lib.hid (src_built (P := Try.prog) (tx := 23) Try.underlying23 wc #[.slice none 0 0] 40 1 1 rfl (by intro u hu; simp at hu; subst hu; rfl))
        have w2a : (wc.alloc (.cells #[.slice none 0 0] 40)).cell? ⟨b13, 2, none⟩ = some (.slice a7 tt.kids.length cap7) := ((ba (b0 wc) _).cell (p := ⟨b13, 2, none⟩) wl).trans w2
        go_upto_region 27 with (first
          | (at_builtin; refine wpList_append (B := 0) rfl _ _ _ _ rfl ik (.slice none 0 0) 24 Try.underlying23 hik hz0k hz1k hz2k rfl rfl (HOKC.out.below (ba (b0 wc) _)).own _ rfl 1 _ SRC.out (by simp only [maxLen]; omega) (by omega) (Nat.zero_le _) ?_; intro a5 cap5 w5 ho5 hc5 hn5; have HO5 := Lib.hid ho5; have HC5 := Lib.hid hc5; have HN5 := Lib.hid hn5; have r5 := (hr13.alloc (.cells #[.slice none 0 0] 40)).chg hc5 (fun h => (HNE.out _ h.1).2 rfl); clear ho5 hc5 hn5 w0 w1 w2 wf wl w2a; have w2 : w5.cell? ⟨b13, 2, none⟩ = some (.slice a7 tt.kids.length cap7) := r5.cell 2; have wf := r5.frozen; have wl := r5.lt)
          | fail)
        have ng := (HOKC.out.below (ba (b0 wc) (.cells #[.slice none 0 0] 40))).push (l := []) rfl (Sl.nil _ _ _ _) (by simp [RowG]) HO5.out HC5.out HN5.out
        have hb5 := Chg.bt (HBC.out.alloc HBC.out.size (.cells #[.slice none 0 0] 40)) HC5.out (fun i hi h => by have := (HNE.out i h.1).1; omega)
        have hlt := hr13.lt
        have hza : (wc.alloc (.cells #[.slice none 0 0] 40)).heap.size = wc.heap.size + 1 := by simp
        have hn5 : ∀ b, blk a5 b → wx.heap.size ≤ b ∧ b ≠ b13 := fun b hb => by
          rcases HN5.out b hb with h | h
          · exact HNE.out b h
          · have := HBC.out.size; omega
        have hr5 := (hr12.alloc (.cells #[.slice none 0 0] 40)).chg HC5.out (fun h => by have := (HNE.out _ h.1).1; have := HZX.out; omega)
        have hg8 := (ng.chg ((Chg.refl (fun b => b = b13) w5).setCell (p := ⟨b13, 2, none⟩) (.inr rfl) (.slice a5 (tt.kids.length + 1) cap5)) (fun k hk h => by
          rcases h with h | h
          · have := HOKB.out k h; have := HBX.out.size; exact fun e => by have e' : k = b13 := e; omega
          · exact (hn5 k h).2)).mono (p' := fun b => ok b ∨ wx.heap.size ≤ b) (fun k hk h => Or.inl h)
        have hq13 : Rw (w5.setCell ⟨b13, 2, none⟩ (.slice a5 (tt.kids.length + 1) cap5)) b13 #[.int .i64 tt.n, .string tt.s, .slice a5 (tt.kids.length + 1) cap5] 25 := r5.set 2 _
        have hq12 := hr5.other (p := ⟨b13, 2, none⟩) hne12 (.slice a5 (tt.kids.length + 1) cap5)
        have hb8 := hb5.setCell (p := ⟨b13, 2, none⟩) hb13 (.slice a5 (tt.kids.length + 1) cap5)
        clear w2 wf wl
        generalize (w5.setCell ⟨b13, 2, none⟩ (.slice a5 (tt.kids.length + 1) cap5)) = w8 at *
        have z0 : w8.cell? ⟨b13, 0, none⟩ = some (.int .i64 tt.n) := hq13.cell 0
        have z1 : w8.cell? ⟨b13, 1, none⟩ = some (.string tt.s) := hq13.cell 1
        have z2 : w8.cell? ⟨b13, 2, none⟩ = some (.slice a5 (tt.kids.length + 1) cap5) := hq13.cell 2
        have y0 : w8.cell? ⟨w.heap.size + 1, 0, none⟩ = some (.int .i64 0) := hq12.cell 0
        have y1 : w8.cell? ⟨w.heap.size + 1, 1, none⟩ = some (.string ⟨#[]⟩) := hq12.cell 1
        have y2 : w8.cell? ⟨w.heap.size + 1, 2, none⟩ = some (.slice none 0 0) := hq12.cell 2
        have yf := hq12.frozen
        have yl := hq12.lt
        go_wp2_with fail
        clear z0 z1 z2 y0 y1 y2 yf yl
        rw [HE.out]
        have hq := hq12.set3 (u0 := .int .i64 tt.n) (u1 := .string tt.s) (u2 := .slice a5 (tt.kids.length + 1) cap5)
        have z0 := hq.cell 0; have z1 := hq.cell 1; have z2 := hq.cell 2
        refine bodyPost_ret (v := .agg #[.int .i64 tt.n, .string tt.s, .slice a5 (tt.kids.length + 1) cap5]) (by simp [results, Try.results16, go_sem, z0, z1, z2]) rfl ?_
        rw [HBT.out]
        exact turn_fin HBX.out HZX.out hb8 hg8 (fun b hb => (hn5 b hb).1) HOKB.out hts
      · by_cases hk0 : tt.kids.length = 0
        · have HBT : Hid (baseT which n s tt = .mk tt.n tt.s tt.kids) := Lib.hid (by rw [baseT, if_neg (by omega), if_neg (by omega), if_neg (by omega), if_pos hk0])
          rw [h6]
          clear h6
          have hk0' : ¬ (0 : Int) < (tt.kids.length : Int) := by omega
          clear hk0
          go_upto_region 27 with fail
          have hq13 := hr13
          have hq12 := hr12
          have hb8 := HBC.out
          have hg8 := HOKC.out.mono (p' := fun b => ok b ∨ wx.heap.size ≤ b) (fun k hk h => Or.inl h)
          clear w0 w1 w2 wf wl
          generalize wc = w8 at *
          have z0 : w8.cell? ⟨b13, 0, none⟩ = some (.int .i64 tt.n) := hq13.cell 0
          have z1 : w8.cell? ⟨b13, 1, none⟩ = some (.string tt.s) := hq13.cell 1
          have z2 : w8.cell? ⟨b13, 2, none⟩ = some (.slice a7 tt.kids.length cap7) := hq13.cell 2
          have y0 : w8.cell? ⟨w.heap.size + 1, 0, none⟩ = some (.int .i64 0) := hq12.cell 0
          have y1 : w8.cell? ⟨w.heap.size + 1, 1, none⟩ = some (.string ⟨#[]⟩) := hq12.cell 1
          have y2 : w8.cell? ⟨w.heap.size + 1, 2, none⟩ = some (.slice none 0 0) := hq12.cell 2
          have yf := hq12.frozen
          have yl := hq12.lt
          go_wp2_with fail
          clear z0 z1 z2 y0 y1 y2 yf yl
          rw [HE.out]
          have hq := hq12.set3 (u0 := .int .i64 tt.n) (u1 := .string tt.s) (u2 := .slice a7 tt.kids.length cap7)
          have z0 := hq.cell 0; have z1 := hq.cell 1; have z2 := hq.cell 2
          refine bodyPost_ret (v := .agg #[.int .i64 tt.n, .string tt.s, .slice a7 tt.kids.length cap7]) (by simp [results, Try.results16, go_sem, z0, z1, z2]) rfl ?_
          rw [HBT.out]
          exact turn_fin HBX.out HZX.out hb8 hg8 (fun b hb => (HNE.out b hb).1) HOKB.out hts
        · have hk0' : (0 : Int) < (tt.kids.length : Int) := by omega
          have m1 := Int.emod_nonneg n (show (tt.kids.length : Int) ≠ 0 by omega)
          have m2 := Int.emod_lt_of_pos n hk0'
          obtain ⟨k, hkx⟩ : ∃ k : Nat, n % (tt.kids.length : Int) = (k : Int) := ⟨(n % (tt.kids.length : Int)).toNat, by omega⟩
          have hkk : k < tt.kids.length := by omega
          have hkd : tt.kids.getD k [] = tt.kids[k] := by rw [List.getD_eq_getElem?_getD, List.getElem?_eq_getElem hkk]; rfl
          have hkn : (n % (tt.kids.length : Int)).toNat = k := by omega
          have HBT : Hid (baseT which n s tt = .mk tt.n tt.s (tt.kids.set k (tt.kids[k] ++ [zeroT]))) := Lib.hid (by rw [baseT, if_neg (by omega), if_neg (by omega), if_neg (by omega), if_neg hk0, if_pos h6, hkn, hkd])
          rw [h6]
          clear h6 hk0 m1 m2
          obtain ⟨g7, h7a, h7b, h7c, h7d, h7e⟩ := HOKC.out.own.pos (by omega)
          obtain ⟨la, lcap, ys, zz, hys, hrow⟩ := HOKC.out.kid.get k hkk
          have hth := ThinK.get (by cases tt; have h := HTH.out; simp only [Thin] at h; exact h.2) k hkk
          have hl1000 := hth.1
          have hkl7 := hkk
          generalize tt.kids[k] = l at *
          obtain ⟨h7n, h7m⟩ := HNE.out g7 ⟨_, _, h7a⟩
          have g0 := h7d _ _ zz
          have HFZ : Hid (∀ W : World, Below wc.heap.size wc W → W.frozen? ⟨g7, k, none⟩ = false ∧ g7 < W.heap.size) := Lib.hid (fun W hb => ⟨((bcell hb).2 g7 k h7c).trans (h7e k), Nat.lt_of_lt_of_le h7c hb.size⟩)
          have HZ := Lib.hid (And.intro w2 g0)
          have HYS := Lib.hid hys; have HROW := Lib.hid hrow; have HKX := Lib.hid hkx
          have h7l := World.block_lt_of_cell? wc _ g0
          clear h7d h7e hys hrow zz hth hkn hkd
          subst h7a
          have hkn0 : (0 : Int) ≤ (k : Int) := by omega
          have hkin : (k : Int) < (tt.kids.length : Int) := by omega
          have HR13C := Lib.hid hr13; have HR12C := Lib.hid hr12
          clear hr13 hr12 w0 w1 wf wl
          have HYB : Hid (∀ W : World, Below wc.heap.size wc W → Src Try.prog 3 40 (.slice la l.length lcap) l.length ys W) := Lib.hid (fun W hb => (((HYS.out.mono (ok' := fun b => b < wc.heap.size) (fun k hk _ => hk) (by decide)).below hb).src (P := Try.prog) (tx := 40) Try.underlying40 (RowG.one' HROW.out)))
          go_upto_region 19 with fail
          go_wp2_with fail
          refine (within_8 n (tt.kids.length : Int) _ hk0' (by omega)).mono ?_
          rintro e w9 ⟨rfl, rfl⟩
          rw [HKX.out]
          go_upto_region 20 with fail
          refine Go.Shr.wp_region_F (fun w' => w'.cell? ⟨b13, 2, none⟩ = some (.slice (some ⟨g7, 0, none⟩) tt.kids.length cap7) ∧ w'.cell? ⟨g7, k, none⟩ = some (.slice la l.length lcap)) [14] (by kernel_rfl) ?g4rgS (fun hHeld => ?g4rgR)
          case g4rgS => (try dsimp only); (first | exact ⟨HZ.out.1, HZ.out.2⟩ | exact ⟨cb HB HZ.out.1, cb HB HZ.out.2⟩)
          try dsimp only at hHeld
          obtain ⟨W, hW⟩ : ∃ W, W = wc.drew := ⟨_, rfl⟩; rw [← hW] at hHeld ⊢; (have HB : Below wc.heap.size wc W := by rw [hW]; exact (b0 wc).drew); clear hW
          refine Go.Shr.wpAnyF_take 0 (oi := { dst := some 123, op := Go.Op.fieldAddr 25 (Go.Operand.tmp 13) 2, type := 0, pos := "law.go:152", after := #[], guard := none }) (v := ?g4rv1) rfl (by kernel_rfl) (fun _ _ _ h => h) (by assumption) (by rfl) ?g4ry1 ?g4rr1
          case g4ry1 => intro w hSw; obtain ⟨s1, s2⟩ := hSw; go_simp; try with_reducible rfl
          try simp only [Act.put, List.setIfInBounds_toArray, List.set_cons_zero, List.set_cons_succ]
          refine Go.Shr.wpAnyF_take 1 (oi := { dst := some 124, op := Go.Op.load 23 (Go.Operand.tmp 123), type := 23, pos := "law.go:152", after := #[{ on := 0, ground := Go.Ground.data }], guard := none }) (v := ?g4rv2) rfl (by kernel_rfl) (fun _ _ _ h => h) (by assumption) (by rfl) ?g4ry2 ?g4rr2
          case g4ry2 => intro w hSw; obtain ⟨s1, s2⟩ := hSw; go_simp; try with_reducible rfl
          try simp only [Act.put, List.setIfInBounds_toArray, List.set_cons_zero, List.set_cons_succ]
          refine Go.Shr.wpAnyF_take 2 (oi := { dst := some 125, op := Go.Op.move (Go.Operand.tmp 17), type := 3, pos := "law.go:152", after := #[], guard := none }) (v := ?g4rv3) rfl (by kernel_rfl) (fun _ _ _ h => h) (by assumption) (by rfl) ?g4ry3 ?g4rr3
          case g4ry3 => intro w hSw; obtain ⟨s1, s2⟩ := hSw; go_simp; try with_reducible rfl
          try simp only [Act.put, List.setIfInBounds_toArray, List.set_cons_zero, List.set_cons_succ]
          refine Go.Shr.wpAnyF_take 4 (oi := { dst := some 127, op := Go.Op.fieldAddr 25 (Go.Operand.tmp 13) 2, type := 0, pos := "law.go:152", after := #[], guard := none }) (v := ?g4rv4) rfl (by kernel_rfl) (fun _ _ _ h => h) (by assumption) (by rfl) ?g4ry4 ?g4rr4
          case g4ry4 => intro w hSw; obtain ⟨s1, s2⟩ := hSw; go_simp; try with_reducible rfl
          try simp only [Act.put, List.setIfInBounds_toArray, List.set_cons_zero, List.set_cons_succ]
          refine Go.Shr.wpAnyF_take 5 (oi := { dst := some 128, op := Go.Op.load 23 (Go.Operand.tmp 127), type := 23, pos := "law.go:152", after := #[{ on := 4, ground := Go.Ground.data }], guard := none }) (v := ?g4rv5) rfl (by kernel_rfl) (fun _ _ _ h => h) (by assumption) (by rfl) ?g4ry5 ?g4rr5
          case g4ry5 => intro w hSw; obtain ⟨s1, s2⟩ := hSw; go_simp; try with_reducible rfl
          try simp only [Act.put, List.setIfInBounds_toArray, List.set_cons_zero, List.set_cons_succ]
          refine Go.Shr.wpAnyF_take 6 (oi := { dst := some 129, op := Go.Op.move (Go.Operand.tmp 17), type := 3, pos := "law.go:152", after := #[], guard := none }) (v := ?g4rv6) rfl (by kernel_rfl) (fun _ _ _ h => h) (by assumption) (by rfl) ?g4ry6 ?g4rr6
          case g4ry6 => intro w hSw; obtain ⟨s1, s2⟩ := hSw; go_simp; try with_reducible rfl
          try simp only [Act.put, List.setIfInBounds_toArray, List.set_cons_zero, List.set_cons_succ]
          refine Go.Shr.wpAnyF_take 7 (oi := { dst := some 130, op := Go.Op.indexAddr 23 (Go.Operand.tmp 128) (Go.Operand.tmp 129), type := 0, pos := "law.go:152", after := #[{ on := 5, ground := Go.Ground.data }, { on := 6, ground := Go.Ground.data }], guard := none }) (v := ?g4rv7) rfl (by kernel_rfl) (fun _ _ _ h => h) (by assumption) (by rfl) ?g4ry7 ?g4rr7
          case g4ry7 => intro w hSw; obtain ⟨s1, s2⟩ := hSw; go_simp; try with_reducible rfl
          try simp only [Act.put, List.setIfInBounds_toArray, List.set_cons_zero, List.set_cons_succ]
          refine Go.Shr.wpAnyF_take 8 (oi := { dst := some 131, op := Go.Op.load 40 (Go.Operand.tmp 130), type := 40, pos := "law.go:152", after := #[{ on := 7, ground := Go.Ground.data }], guard := none }) (v := ?g4rv8) rfl (by kernel_rfl) (fun _ _ _ h => h) (by assumption) (by rfl) ?g4ry8 ?g4rr8
          case g4ry8 => intro w hSw; obtain ⟨s1, s2⟩ := hSw; go_simp; try with_reducible rfl
          try simp only [Act.put, List.setIfInBounds_toArray, List.set_cons_zero, List.set_cons_succ]
          refine Go.Shr.wpAnyF_take 10 (oi := { dst := some 133, op := Go.Op.build 25 #[], type := 25, pos := "law.go:152", after := #[], guard := none }) (v := ?g4rv9) rfl (by kernel_rfl) (fun _ _ _ h => h) (by assumption) (by rfl) ?g4ry9 ?g4rr9
          case g4ry9 => intro w hSw; obtain ⟨s1, s2⟩ := hSw; go_simp; try with_reducible rfl
          try simp only [Act.put, List.setIfInBounds_toArray, List.set_cons_zero, List.set_cons_succ]
          refine Go.Shr.wpAnyF_ready [3, 11] (by kernel_rfl) (by simp) ?_
          refine Go.Shr.AllReadyF.cons 3 (o := { dst := some 126, op := Go.Op.buildSlice 40 0 #[], type := 40, pos := "law.go:152", after := #[], guard := none }) rfl (fun K hK => ?g4ro10) ?g4rm10
          case g4ro10 =>
            (obtain ⟨b3, hb3⟩ : ∃ b3, b3 = W.heap.size := ⟨_, rfl⟩); go_simp; rw [← hb3]; refine gen_w (fun W hW => ?_); (have hge3 : wc.heap.size ≤ b3 := by rw [hb3]; exact HB.size); (try replace r11 := Rw.ren hW (Rw.alloc r11 _)); (replace HB := Go.Shr.Below.ren hW (ba HB _)); clear hW hb3
            refine hK.out _ _ ?g4rs10 (fun hHeld => ?g4rt10)
            case g4rs10 => (try dsimp only); (first | exact ⟨HZ.out.1, HZ.out.2⟩ | exact ⟨cb HB HZ.out.1, cb HB HZ.out.2⟩)
            try dsimp only at hHeld
            clear hK K
            try simp only [Act.put, List.setIfInBounds_toArray, List.set_cons_zero, List.set_cons_succ]
            refine Go.Shr.wpAnyF_ready [9, 11] (by kernel_rfl) (by simp) ?_
            refine Go.Shr.AllReadyF.cons 9 (o := { dst := some 132, op := Go.Op.call { callee := Go.Callee.builtin Go.Builtin.append, args := #[Go.Operand.tmp 126, Go.Operand.tmp 131], argTypes := #[40, 40] }, type := 40, pos := "law.go:152", after := #[{ on := 3, ground := Go.Ground.data }, { on := 8, ground := Go.Ground.data }], guard := none }) rfl (fun K hK => ?g4ro11) ?g4rm11
            case g4ro11 =>
              (refine step_fresh (B := 0) rfl _ _ _ _ rfl it (.agg #[.int .i64 0, .string ByteArray.empty, .slice none 0 0]) 48 Try.underlying40 hit hz0t hz1t hz2t rfl rfl _ rfl _ _ (HYB.out W HB) (by simp only [maxLen]; omega) (by omega) (Nat.zero_le _) ?_; intro a5 cap5 W ho5 hb5 hn5); (have hn5' : ∀ b, blk a5 b → wc.heap.size ≤ b := fun b hb => by (rcases hn5 b hb with ⟨_, _, e⟩ | h); (cases e; exact hge3); (have := HB.size; omega)); (try replace r11 := r11.below hb5); (replace HB := bt HB hb5); clear hn5 hb5
              refine hK.out _ _ ?g4rs11 (fun hHeld => ?g4rt11)
              case g4rs11 => (try dsimp only); (first | exact ⟨HZ.out.1, HZ.out.2⟩ | exact ⟨cb HB HZ.out.1, cb HB HZ.out.2⟩)
              try dsimp only at hHeld
              clear hK K
              try simp only [Act.put, List.setIfInBounds_toArray, List.set_cons_zero, List.set_cons_succ]
              refine Go.Shr.wpAnyF_ready [11] (by kernel_rfl) (by simp) ?_
              refine Go.Shr.AllReadyF.cons 11 (o := { dst := some 134, op := Go.Op.buildSlice 40 1 #[(0, Go.Operand.tmp 133)], type := 40, pos := "law.go:152", after := #[{ on := 10, ground := Go.Ground.data }], guard := none }) rfl (fun K hK => ?g4ro12) ?g4rm12
              case g4rm12 => exact Go.Shr.AllReadyF.nil
              (obtain ⟨b11, hb11⟩ : ∃ b11, b11 = W.heap.size := ⟨_, rfl⟩); go_simp; rw [← hb11]; refine gen_w (fun W hW => ?_); (have r11 := Rw.ren hW (Rw.fresh HB #[.int .i64 0, .string ByteArray.empty, .slice none 0 0] 25)); rw [← hb11] at r11; (try replace ho5 := Own.ren hW (ho5.alloc _)); (replace HB := Go.Shr.Below.ren hW (ba HB _)); clear hW hb11
              refine hK.out _ _ ?g4rs12 (fun hHeld => ?g4rt12)
              case g4rs12 => (try dsimp only); (first | exact ⟨HZ.out.1, HZ.out.2⟩ | exact ⟨cb HB HZ.out.1, cb HB HZ.out.2⟩)
              try dsimp only at hHeld
              clear hK K
              try simp only [Act.put, List.setIfInBounds_toArray, List.set_cons_zero, List.set_cons_succ]
              refine Go.Shr.wpAnyF_ready [12] (by kernel_rfl) (by simp) ?_
              refine Go.Shr.AllReadyF.cons 12 (o := { dst := some 135, op := Go.Op.call { callee := Go.Callee.builtin Go.Builtin.append, args := #[Go.Operand.tmp 132, Go.Operand.tmp 134], argTypes := #[40, 40] }, type := 40, pos := "law.go:152", after := #[{ on := 9, ground := Go.Ground.data }, { on := 11, ground := Go.Ground.data }, { on := 9, ground := Go.Ground.chain }], guard := none }) rfl (fun K hK => ?g4ro13) ?g4rm13
              case g4rm13 => exact Go.Shr.AllReadyF.nil
              (refine step_append (B := 0) rfl _ _ _ _ rfl it (.agg #[.int .i64 0, .string ByteArray.empty, .slice none 0 0]) 48 Try.underlying40 hit hz0t hz1t hz2t rfl rfl ho5 _ rfl 1 _ (src_rw (P := Try.prog) (tx := 40) Try.underlying40 r11 1 3 rfl (by intro u hu; simp at hu; rcases hu with rfl | rfl | rfl <;> rfl)) (by simp only [maxLen]; omega) (by omega) (Nat.zero_le _) ?_; intro a6 cap6 W ho6 hc6 hn6); (have hn6' : ∀ b, blk a6 b → wc.heap.size ≤ b := fun b hb => by (rcases hn6 b hb with h | h); (exact hn5' b h); (have := HB.size; omega)); (replace HB := Chg.bt HB hc6 (fun i hi h => by have := hn5' i h.1; omega)); clear hn6 hc6 r11 ho5
              refine hK.out _ _ ?g4rs13 (fun hHeld => ?g4rt13)
              case g4rs13 => (try dsimp only); (first | exact ⟨HZ.out.1, HZ.out.2⟩ | exact ⟨cb HB HZ.out.1, cb HB HZ.out.2⟩)
              try dsimp only at hHeld
              clear hK K
              try simp only [Act.put, List.setIfInBounds_toArray, List.set_cons_zero, List.set_cons_succ]
              refine Go.Shr.wpAnyF_take 13 (oi := { dst := some 136, op := Go.Op.indexAddr 23 (Go.Operand.tmp 124) (Go.Operand.tmp 125), type := 0, pos := "law.go:152", after := #[{ on := 1, ground := Go.Ground.data }, { on := 2, ground := Go.Ground.data }, { on := 0, ground := Go.Ground.phase }, { on := 1, ground := Go.Ground.phase }, { on := 2, ground := Go.Ground.phase }, { on := 3, ground := Go.Ground.phase }, { on := 4, ground := Go.Ground.phase }, { on := 5, ground := Go.Ground.phase }, { on := 6, ground := Go.Ground.phase }, { on := 7, ground := Go.Ground.phase }, { on := 8, ground := Go.Ground.phase }, { on := 9, ground := Go.Ground.phase }, { on := 10, ground := Go.Ground.phase }, { on := 11, ground := Go.Ground.phase }, { on := 12, ground := Go.Ground.phase }], guard := none }) (v := ?g4rv14) rfl (by kernel_rfl) (fun _ _ _ h => h) (by assumption) (by rfl) ?g4ry14 ?g4rr14
              case g4ry14 => intro w hSw; obtain ⟨s1, s2⟩ := hSw; go_simp; try with_reducible rfl
              try simp only [Act.put, List.setIfInBounds_toArray, List.set_cons_zero, List.set_cons_succ]
              refine Go.Shr.wpAnyF_ready [14] (by kernel_rfl) (by simp) ?_
              refine Go.Shr.AllReadyF.last 14 (o := { dst := none, op := Go.Op.store 40 (Go.Operand.tmp 136) (Go.Operand.tmp 135), type := 0, pos := "law.go:152", after := #[{ on := 13, ground := Go.Ground.data }, { on := 12, ground := Go.Ground.data }, { on := 12, ground := Go.Ground.chain }, { on := 0, ground := Go.Ground.phase }, { on := 1, ground := Go.Ground.phase }, { on := 2, ground := Go.Ground.phase }, { on := 3, ground := Go.Ground.phase }, { on := 4, ground := Go.Ground.phase }, { on := 5, ground := Go.Ground.phase }, { on := 6, ground := Go.Ground.phase }, { on := 7, ground := Go.Ground.phase }, { on := 8, ground := Go.Ground.phase }, { on := 9, ground := Go.Ground.phase }, { on := 10, ground := Go.Ground.phase }, { on := 11, ground := Go.Ground.phase }, { on := 12, ground := Go.Ground.phase }], guard := none }) rfl (by kernel_rfl) (fun K hK => ?g4ro15) ?g4rm15
              case g4rm15 => exact Go.Shr.AllReadyF.nil
              (obtain ⟨qf, ql⟩ := HFZ.out W HB); (have qc := cb HB HZ.out.2); go_simp; clear qf ql qc
              refine hK.out _ _ ?_
              clear hK K
              try simp only [Act.put, List.setIfInBounds_toArray, List.set_cons_zero, List.set_cons_succ]
              refine Go.Shr.wpAnyF_done (by kernel_rfl) ?_
              have hszW := HB.size
              have hokW := (HOKC.out.below HB).mono (p' := fun b => ok b ∨ wx.heap.size ≤ b) (fun k hk h => Or.inl h)
              have hszx := HBX.out.size
              have hszb := HBC.out.size
              have hrW : RowG (fun b => (ok b ∨ wx.heap.size ≤ b) ∧ ¬ blk (some (⟨g7, 0, none⟩ : Addr)) b) W (l ++ [zeroT]) _ := RowG.snoc (TrG.leaf (by decide)) (HROW.out.go (Chg.ofBelow HB) (fun b hb h => ⟨by omega, .inl h.1, h.2⟩))
              have hsW : Sl (fun b => (ok b ∨ wx.heap.size ≤ b) ∧ ¬ blk (some (⟨g7, 0, none⟩ : Addr)) b) W 3 a6 (l.length + 1) cap6 _ := ho6.sl.mono (fun b hb h => ⟨.inr (by have := hn6' b h.2.1; omega), fun h2 => by have := hn6' b h.2.1; obtain ⟨_, _, e⟩ := h2; cases e; omega⟩) (by decide)
              have hg8 := hokW.set (g := g7) (m := (l.length + 1)) rfl k (by simp) hsW hrW
              have hb8 := (bt HBC.out HB).setCell (p := ⟨g7, k, none⟩) h7n (.slice a6 (l.length + 1) cap6)
              have hq13 := (HR13C.out.below HB).other (p := ⟨g7, k, none⟩) (Ne.symm h7m) (.slice a6 (l.length + 1) cap6)
              have hq12 := (HR12C.out.below HB).other (p := ⟨g7, k, none⟩) (show w.heap.size + 1 ≠ g7 by have := HZX.out; omega) (.slice a6 (l.length + 1) cap6)
              clear hokW hrW hsW
              try clear hHeld
              have HNG : Hid (∀ b, blk (some (⟨g7, 0, none⟩ : Addr)) b → wx.heap.size ≤ b) := Lib.hid (fun b hb => by obtain ⟨_, _, e⟩ := hb; cases e; exact h7n)
              generalize (W.setCell ⟨g7, k, none⟩ (.slice a6 (l.length + 1) cap6)) = w8 at *
              go_upto_region 27 with fail
              have z0 : w8.cell? ⟨b13, 0, none⟩ = some (.int .i64 tt.n) := hq13.cell 0
              have z1 : w8.cell? ⟨b13, 1, none⟩ = some (.string tt.s) := hq13.cell 1
              have z2 : w8.cell? ⟨b13, 2, none⟩ = some (.slice (some ⟨g7, 0, none⟩) tt.kids.length cap7) := hq13.cell 2
              have y0 : w8.cell? ⟨w.heap.size + 1, 0, none⟩ = some (.int .i64 0) := hq12.cell 0
              have y1 : w8.cell? ⟨w.heap.size + 1, 1, none⟩ = some (.string ⟨#[]⟩) := hq12.cell 1
              have y2 : w8.cell? ⟨w.heap.size + 1, 2, none⟩ = some (.slice none 0 0) := hq12.cell 2
              have yf := hq12.frozen
              have yl := hq12.lt
              go_wp2_with fail
              clear z0 z1 z2 y0 y1 y2 yf yl
              rw [HE.out]
              have hq := hq12.set3 (u0 := .int .i64 tt.n) (u1 := .string tt.s) (u2 := .slice (some ⟨g7, 0, none⟩) tt.kids.length cap7)
              have z0 := hq.cell 0; have z1 := hq.cell 1; have z2 := hq.cell 2
              refine bodyPost_ret (v := .agg #[.int .i64 tt.n, .string tt.s, .slice (some ⟨g7, 0, none⟩) tt.kids.length cap7]) (by simp [results, Try.results16, go_sem, z0, z1, z2]) rfl ?_
              rw [HBT.out]
              exact turn_fin HBX.out HZX.out hb8 hg8 HNG.out HOKB.out hts
            case g4rm11 =>
            refine Go.Shr.AllReadyF.cons 11 (o := { dst := some 134, op := Go.Op.buildSlice 40 1 #[(0, Go.Operand.tmp 133)], type := 40, pos := "law.go:152", after := #[{ on := 10, ground := Go.Ground.data }], guard := none }) rfl (fun K hK => ?g4ro16) ?g4rm16
            case g4ro16 =>
              (obtain ⟨b11, hb11⟩ : ∃ b11, b11 = W.heap.size := ⟨_, rfl⟩); go_simp; rw [← hb11]; refine gen_w (fun W hW => ?_); (have r11 := Rw.ren hW (Rw.fresh HB #[.int .i64 0, .string ByteArray.empty, .slice none 0 0] 25)); rw [← hb11] at r11; (try replace ho5 := Own.ren hW (ho5.alloc _)); (replace HB := Go.Shr.Below.ren hW (ba HB _)); clear hW hb11
              refine hK.out _ _ ?g4rs16 (fun hHeld => ?g4rt16)
              case g4rs16 => (try dsimp only); (first | exact ⟨HZ.out.1, HZ.out.2⟩ | exact ⟨cb HB HZ.out.1, cb HB HZ.out.2⟩)
              try dsimp only at hHeld
              clear hK K
              try simp only [Act.put, List.setIfInBounds_toArray, List.set_cons_zero, List.set_cons_succ]
              refine Go.Shr.wpAnyF_ready [9] (by kernel_rfl) (by simp) ?_
              refine Go.Shr.AllReadyF.cons 9 (o := { dst := some 132, op := Go.Op.call { callee := Go.Callee.builtin Go.Builtin.append, args := #[Go.Operand.tmp 126, Go.Operand.tmp 131], argTypes := #[40, 40] }, type := 40, pos := "law.go:152", after := #[{ on := 3, ground := Go.Ground.data }, { on := 8, ground := Go.Ground.data }], guard := none }) rfl (fun K hK => ?g4ro17) ?g4rm17
              case g4rm17 => exact Go.Shr.AllReadyF.nil
              (refine step_fresh (B := 0) rfl _ _ _ _ rfl it (.agg #[.int .i64 0, .string ByteArray.empty, .slice none 0 0]) 48 Try.underlying40 hit hz0t hz1t hz2t rfl rfl _ rfl _ _ (HYB.out W HB) (by simp only [maxLen]; omega) (by omega) (Nat.zero_le _) ?_; intro a5 cap5 W ho5 hb5 hn5); (have hn5' : ∀ b, blk a5 b → wc.heap.size ≤ b := fun b hb => by (rcases hn5 b hb with ⟨_, _, e⟩ | h); (cases e; exact hge3); (have := HB.size; omega)); (try replace r11 := r11.below hb5); (replace HB := bt HB hb5); clear hn5 hb5
              refine hK.out _ _ ?g4rs17 (fun hHeld => ?g4rt17)
              case g4rs17 => (try dsimp only); (first | exact ⟨HZ.out.1, HZ.out.2⟩ | exact ⟨cb HB HZ.out.1, cb HB HZ.out.2⟩)
              try dsimp only at hHeld
              clear hK K
              try simp only [Act.put, List.setIfInBounds_toArray, List.set_cons_zero, List.set_cons_succ]
              refine Go.Shr.wpAnyF_ready [12] (by kernel_rfl) (by simp) ?_
              refine Go.Shr.AllReadyF.cons 12 (o := { dst := some 135, op := Go.Op.call { callee := Go.Callee.builtin Go.Builtin.append, args := #[Go.Operand.tmp 132, Go.Operand.tmp 134], argTypes := #[40, 40] }, type := 40, pos := "law.go:152", after := #[{ on := 9, ground := Go.Ground.data }, { on := 11, ground := Go.Ground.data }, { on := 9, ground := Go.Ground.chain }], guard := none }) rfl (fun K hK => ?g4ro18) ?g4rm18
              case g4rm18 => exact Go.Shr.AllReadyF.nil
              (refine step_append (B := 0) rfl _ _ _ _ rfl it (.agg #[.int .i64 0, .string ByteArray.empty, .slice none 0 0]) 48 Try.underlying40 hit hz0t hz1t hz2t rfl rfl ho5 _ rfl 1 _ (src_rw (P := Try.prog) (tx := 40) Try.underlying40 r11 1 3 rfl (by intro u hu; simp at hu; rcases hu with rfl | rfl | rfl <;> rfl)) (by simp only [maxLen]; omega) (by omega) (Nat.zero_le _) ?_; intro a6 cap6 W ho6 hc6 hn6); (have hn6' : ∀ b, blk a6 b → wc.heap.size ≤ b := fun b hb => by (rcases hn6 b hb with h | h); (exact hn5' b h); (have := HB.size; omega)); (replace HB := Chg.bt HB hc6 (fun i hi h => by have := hn5' i h.1; omega)); clear hn6 hc6 r11 ho5
              refine hK.out _ _ ?g4rs18 (fun hHeld => ?g4rt18)
              case g4rs18 => (try dsimp only); (first | exact ⟨HZ.out.1, HZ.out.2⟩ | exact ⟨cb HB HZ.out.1, cb HB HZ.out.2⟩)
              try dsimp only at hHeld
              clear hK K
              try simp only [Act.put, List.setIfInBounds_toArray, List.set_cons_zero, List.set_cons_succ]
              refine Go.Shr.wpAnyF_take 13 (oi := { dst := some 136, op := Go.Op.indexAddr 23 (Go.Operand.tmp 124) (Go.Operand.tmp 125), type := 0, pos := "law.go:152", after := #[{ on := 1, ground := Go.Ground.data }, { on := 2, ground := Go.Ground.data }, { on := 0, ground := Go.Ground.phase }, { on := 1, ground := Go.Ground.phase }, { on := 2, ground := Go.Ground.phase }, { on := 3, ground := Go.Ground.phase }, { on := 4, ground := Go.Ground.phase }, { on := 5, ground := Go.Ground.phase }, { on := 6, ground := Go.Ground.phase }, { on := 7, ground := Go.Ground.phase }, { on := 8, ground := Go.Ground.phase }, { on := 9, ground := Go.Ground.phase }, { on := 10, ground := Go.Ground.phase }, { on := 11, ground := Go.Ground.phase }, { on := 12, ground := Go.Ground.phase }], guard := none }) (v := ?g4rv19) rfl (by kernel_rfl) (fun _ _ _ h => h) (by assumption) (by rfl) ?g4ry19 ?g4rr19
              case g4ry19 => intro w hSw; obtain ⟨s1, s2⟩ := hSw; go_simp; try with_reducible rfl
              try simp only [Act.put, List.setIfInBounds_toArray, List.set_cons_zero, List.set_cons_succ]
              refine Go.Shr.wpAnyF_ready [14] (by kernel_rfl) (by simp) ?_
              refine Go.Shr.AllReadyF.last 14 (o := { dst := none, op := Go.Op.store 40 (Go.Operand.tmp 136) (Go.Operand.tmp 135), type := 0, pos := "law.go:152", after := #[{ on := 13, ground := Go.Ground.data }, { on := 12, ground := Go.Ground.data }, { on := 12, ground := Go.Ground.chain }, { on := 0, ground := Go.Ground.phase }, { on := 1, ground := Go.Ground.phase }, { on := 2, ground := Go.Ground.phase }, { on := 3, ground := Go.Ground.phase }, { on := 4, ground := Go.Ground.phase }, { on := 5, ground := Go.Ground.phase }, { on := 6, ground := Go.Ground.phase }, { on := 7, ground := Go.Ground.phase }, { on := 8, ground := Go.Ground.phase }, { on := 9, ground := Go.Ground.phase }, { on := 10, ground := Go.Ground.phase }, { on := 11, ground := Go.Ground.phase }, { on := 12, ground := Go.Ground.phase }], guard := none }) rfl (by kernel_rfl) (fun K hK => ?g4ro20) ?g4rm20
              case g4rm20 => exact Go.Shr.AllReadyF.nil
              (obtain ⟨qf, ql⟩ := HFZ.out W HB); (have qc := cb HB HZ.out.2); go_simp; clear qf ql qc
              refine hK.out _ _ ?_
              clear hK K
              try simp only [Act.put, List.setIfInBounds_toArray, List.set_cons_zero, List.set_cons_succ]
              refine Go.Shr.wpAnyF_done (by kernel_rfl) ?_
              have hszW := HB.size
              have hokW := (HOKC.out.below HB).mono (p' := fun b => ok b ∨ wx.heap.size ≤ b) (fun k hk h => Or.inl h)
              have hszx := HBX.out.size
              have hszb := HBC.out.size
              have hrW : RowG (fun b => (ok b ∨ wx.heap.size ≤ b) ∧ ¬ blk (some (⟨g7, 0, none⟩ : Addr)) b) W (l ++ [zeroT]) _ := RowG.snoc (TrG.leaf (by decide)) (HROW.out.go (Chg.ofBelow HB) (fun b hb h => ⟨by omega, .inl h.1, h.2⟩))
              have hsW : Sl (fun b => (ok b ∨ wx.heap.size ≤ b) ∧ ¬ blk (some (⟨g7, 0, none⟩ : Addr)) b) W 3 a6 (l.length + 1) cap6 _ := ho6.sl.mono (fun b hb h => ⟨.inr (by have := hn6' b h.2.1; omega), fun h2 => by have := hn6' b h.2.1; obtain ⟨_, _, e⟩ := h2; cases e; omega⟩) (by decide)
              have hg8 := hokW.set (g := g7) (m := (l.length + 1)) rfl k (by simp) hsW hrW
              have hb8 := (bt HBC.out HB).setCell (p := ⟨g7, k, none⟩) h7n (.slice a6 (l.length + 1) cap6)
              have hq13 := (HR13C.out.below HB).other (p := ⟨g7, k, none⟩) (Ne.symm h7m) (.slice a6 (l.length + 1) cap6)
              have hq12 := (HR12C.out.below HB).other (p := ⟨g7, k, none⟩) (show w.heap.size + 1 ≠ g7 by have := HZX.out; omega) (.slice a6 (l.length + 1) cap6)
              clear hokW hrW hsW
              try clear hHeld
              have HNG : Hid (∀ b, blk (some (⟨g7, 0, none⟩ : Addr)) b → wx.heap.size ≤ b) := Lib.hid (fun b hb => by obtain ⟨_, _, e⟩ := hb; cases e; exact h7n)
              generalize (W.setCell ⟨g7, k, none⟩ (.slice a6 (l.length + 1) cap6)) = w8 at *
              go_upto_region 27 with fail
              have z0 : w8.cell? ⟨b13, 0, none⟩ = some (.int .i64 tt.n) := hq13.cell 0
              have z1 : w8.cell? ⟨b13, 1, none⟩ = some (.string tt.s) := hq13.cell 1
              have z2 : w8.cell? ⟨b13, 2, none⟩ = some (.slice (some ⟨g7, 0, none⟩) tt.kids.length cap7) := hq13.cell 2
              have y0 : w8.cell? ⟨w.heap.size + 1, 0, none⟩ = some (.int .i64 0) := hq12.cell 0
              have y1 : w8.cell? ⟨w.heap.size + 1, 1, none⟩ = some (.string ⟨#[]⟩) := hq12.cell 1
              have y2 : w8.cell? ⟨w.heap.size + 1, 2, none⟩ = some (.slice none 0 0) := hq12.cell 2
              have yf := hq12.frozen
              have yl := hq12.lt
              go_wp2_with fail
              clear z0 z1 z2 y0 y1 y2 yf yl
              rw [HE.out]
              have hq := hq12.set3 (u0 := .int .i64 tt.n) (u1 := .string tt.s) (u2 := .slice (some ⟨g7, 0, none⟩) tt.kids.length cap7)
              have z0 := hq.cell 0; have z1 := hq.cell 1; have z2 := hq.cell 2
              refine bodyPost_ret (v := .agg #[.int .i64 tt.n, .string tt.s, .slice (some ⟨g7, 0, none⟩) tt.kids.length cap7]) (by simp [results, Try.results16, go_sem, z0, z1, z2]) rfl ?_
              rw [HBT.out]
              exact turn_fin HBX.out HZX.out hb8 hg8 HNG.out HOKB.out hts
            case g4rm16 =>
            exact Go.Shr.AllReadyF.nil
          case g4rm10 =>
          refine Go.Shr.AllReadyF.cons 11 (o := { dst := some 134, op := Go.Op.buildSlice 40 1 #[(0, Go.Operand.tmp 133)], type := 40, pos := "law.go:152", after := #[{ on := 10, ground := Go.Ground.data }], guard := none }) rfl (fun K hK => ?g4ro21) ?g4rm21
          case g4ro21 =>
            (obtain ⟨b11, hb11⟩ : ∃ b11, b11 = W.heap.size := ⟨_, rfl⟩); go_simp; rw [← hb11]; refine gen_w (fun W hW => ?_); (have r11 := Rw.ren hW (Rw.fresh HB #[.int .i64 0, .string ByteArray.empty, .slice none 0 0] 25)); rw [← hb11] at r11; (try replace ho5 := Own.ren hW (ho5.alloc _)); (replace HB := Go.Shr.Below.ren hW (ba HB _)); clear hW hb11
            refine hK.out _ _ ?g4rs21 (fun hHeld => ?g4rt21)
            case g4rs21 => (try dsimp only); (first | exact ⟨HZ.out.1, HZ.out.2⟩ | exact ⟨cb HB HZ.out.1, cb HB HZ.out.2⟩)
            try dsimp only at hHeld
            clear hK K
            try simp only [Act.put, List.setIfInBounds_toArray, List.set_cons_zero, List.set_cons_succ]
            refine Go.Shr.wpAnyF_ready [3] (by kernel_rfl) (by simp) ?_
            refine Go.Shr.AllReadyF.cons 3 (o := { dst := some 126, op := Go.Op.buildSlice 40 0 #[], type := 40, pos := "law.go:152", after := #[], guard := none }) rfl (fun K hK => ?g4ro22) ?g4rm22
            case g4rm22 => exact Go.Shr.AllReadyF.nil
            (obtain ⟨b3, hb3⟩ : ∃ b3, b3 = W.heap.size := ⟨_, rfl⟩); go_simp; rw [← hb3]; refine gen_w (fun W hW => ?_); (have hge3 : wc.heap.size ≤ b3 := by rw [hb3]; exact HB.size); (try replace r11 := Rw.ren hW (Rw.alloc r11 _)); (replace HB := Go.Shr.Below.ren hW (ba HB _)); clear hW hb3
            refine hK.out _ _ ?g4rs22 (fun hHeld => ?g4rt22)
            case g4rs22 => (try dsimp only); (first | exact ⟨HZ.out.1, HZ.out.2⟩ | exact ⟨cb HB HZ.out.1, cb HB HZ.out.2⟩)
            try dsimp only at hHeld
            clear hK K
            try simp only [Act.put, List.setIfInBounds_toArray, List.set_cons_zero, List.set_cons_succ]
            refine Go.Shr.wpAnyF_ready [9] (by kernel_rfl) (by simp) ?_
            refine Go.Shr.AllReadyF.cons 9 (o := { dst := some 132, op := Go.Op.call { callee := Go.Callee.builtin Go.Builtin.append, args := #[Go.Operand.tmp 126, Go.Operand.tmp 131], argTypes := #[40, 40] }, type := 40, pos := "law.go:152", after := #[{ on := 3, ground := Go.Ground.data }, { on := 8, ground := Go.Ground.data }], guard := none }) rfl (fun K hK => ?g4ro23) ?g4rm23
            case g4rm23 => exact Go.Shr.AllReadyF.nil
            (refine step_fresh (B := 0) rfl _ _ _ _ rfl it (.agg #[.int .i64 0, .string ByteArray.empty, .slice none 0 0]) 48 Try.underlying40 hit hz0t hz1t hz2t rfl rfl _ rfl _ _ (HYB.out W HB) (by simp only [maxLen]; omega) (by omega) (Nat.zero_le _) ?_; intro a5 cap5 W ho5 hb5 hn5); (have hn5' : ∀ b, blk a5 b → wc.heap.size ≤ b := fun b hb => by (rcases hn5 b hb with ⟨_, _, e⟩ | h); (cases e; exact hge3); (have := HB.size; omega)); (try replace r11 := r11.below hb5); (replace HB := bt HB hb5); clear hn5 hb5
            refine hK.out _ _ ?g4rs23 (fun hHeld => ?g4rt23)
            case g4rs23 => (try dsimp only); (first | exact ⟨HZ.out.1, HZ.out.2⟩ | exact ⟨cb HB HZ.out.1, cb HB HZ.out.2⟩)
            try dsimp only at hHeld
            clear hK K
            try simp only [Act.put, List.setIfInBounds_toArray, List.set_cons_zero, List.set_cons_succ]
            refine Go.Shr.wpAnyF_ready [12] (by kernel_rfl) (by simp) ?_
            refine Go.Shr.AllReadyF.cons 12 (o := { dst := some 135, op := Go.Op.call { callee := Go.Callee.builtin Go.Builtin.append, args := #[Go.Operand.tmp 132, Go.Operand.tmp 134], argTypes := #[40, 40] }, type := 40, pos := "law.go:152", after := #[{ on := 9, ground := Go.Ground.data }, { on := 11, ground := Go.Ground.data }, { on := 9, ground := Go.Ground.chain }], guard := none }) rfl (fun K hK => ?g4ro24) ?g4rm24
            case g4rm24 => exact Go.Shr.AllReadyF.nil
            (refine step_append (B := 0) rfl _ _ _ _ rfl it (.agg #[.int .i64 0, .string ByteArray.empty, .slice none 0 0]) 48 Try.underlying40 hit hz0t hz1t hz2t rfl rfl ho5 _ rfl 1 _ (src_rw (P := Try.prog) (tx := 40) Try.underlying40 r11 1 3 rfl (by intro u hu; simp at hu; rcases hu with rfl | rfl | rfl <;> rfl)) (by simp only [maxLen]; omega) (by omega) (Nat.zero_le _) ?_; intro a6 cap6 W ho6 hc6 hn6); (have hn6' : ∀ b, blk a6 b → wc.heap.size ≤ b := fun b hb => by (rcases hn6 b hb with h | h); (exact hn5' b h); (have := HB.size; omega)); (replace HB := Chg.bt HB hc6 (fun i hi h => by have := hn5' i h.1; omega)); clear hn6 hc6 r11 ho5
            refine hK.out _ _ ?g4rs24 (fun hHeld => ?g4rt24)
            case g4rs24 => (try dsimp only); (first | exact ⟨HZ.out.1, HZ.out.2⟩ | exact ⟨cb HB HZ.out.1, cb HB HZ.out.2⟩)
            try dsimp only at hHeld
            clear hK K
            try simp only [Act.put, List.setIfInBounds_toArray, List.set_cons_zero, List.set_cons_succ]
            refine Go.Shr.wpAnyF_take 13 (oi := { dst := some 136, op := Go.Op.indexAddr 23 (Go.Operand.tmp 124) (Go.Operand.tmp 125), type := 0, pos := "law.go:152", after := #[{ on := 1, ground := Go.Ground.data }, { on := 2, ground := Go.Ground.data }, { on := 0, ground := Go.Ground.phase }, { on := 1, ground := Go.Ground.phase }, { on := 2, ground := Go.Ground.phase }, { on := 3, ground := Go.Ground.phase }, { on := 4, ground := Go.Ground.phase }, { on := 5, ground := Go.Ground.phase }, { on := 6, ground := Go.Ground.phase }, { on := 7, ground := Go.Ground.phase }, { on := 8, ground := Go.Ground.phase }, { on := 9, ground := Go.Ground.phase }, { on := 10, ground := Go.Ground.phase }, { on := 11, ground := Go.Ground.phase }, { on := 12, ground := Go.Ground.phase }], guard := none }) (v := ?g4rv25) rfl (by kernel_rfl) (fun _ _ _ h => h) (by assumption) (by rfl) ?g4ry25 ?g4rr25
            case g4ry25 => intro w hSw; obtain ⟨s1, s2⟩ := hSw; go_simp; try with_reducible rfl
            try simp only [Act.put, List.setIfInBounds_toArray, List.set_cons_zero, List.set_cons_succ]
            refine Go.Shr.wpAnyF_ready [14] (by kernel_rfl) (by simp) ?_
            refine Go.Shr.AllReadyF.last 14 (o := { dst := none, op := Go.Op.store 40 (Go.Operand.tmp 136) (Go.Operand.tmp 135), type := 0, pos := "law.go:152", after := #[{ on := 13, ground := Go.Ground.data }, { on := 12, ground := Go.Ground.data }, { on := 12, ground := Go.Ground.chain }, { on := 0, ground := Go.Ground.phase }, { on := 1, ground := Go.Ground.phase }, { on := 2, ground := Go.Ground.phase }, { on := 3, ground := Go.Ground.phase }, { on := 4, ground := Go.Ground.phase }, { on := 5, ground := Go.Ground.phase }, { on := 6, ground := Go.Ground.phase }, { on := 7, ground := Go.Ground.phase }, { on := 8, ground := Go.Ground.phase }, { on := 9, ground := Go.Ground.phase }, { on := 10, ground := Go.Ground.phase }, { on := 11, ground := Go.Ground.phase }, { on := 12, ground := Go.Ground.phase }], guard := none }) rfl (by kernel_rfl) (fun K hK => ?g4ro26) ?g4rm26
            case g4rm26 => exact Go.Shr.AllReadyF.nil
            (obtain ⟨qf, ql⟩ := HFZ.out W HB); (have qc := cb HB HZ.out.2); go_simp; clear qf ql qc
            refine hK.out _ _ ?_
            clear hK K
            try simp only [Act.put, List.setIfInBounds_toArray, List.set_cons_zero, List.set_cons_succ]
            refine Go.Shr.wpAnyF_done (by kernel_rfl) ?_
            have hszW := HB.size
            have hokW := (HOKC.out.below HB).mono (p' := fun b => ok b ∨ wx.heap.size ≤ b) (fun k hk h => Or.inl h)
            have hszx := HBX.out.size
            have hszb := HBC.out.size
            have hrW : RowG (fun b => (ok b ∨ wx.heap.size ≤ b) ∧ ¬ blk (some (⟨g7, 0, none⟩ : Addr)) b) W (l ++ [zeroT]) _ := RowG.snoc (TrG.leaf (by decide)) (HROW.out.go (Chg.ofBelow HB) (fun b hb h => ⟨by omega, .inl h.1, h.2⟩))
            have hsW : Sl (fun b => (ok b ∨ wx.heap.size ≤ b) ∧ ¬ blk (some (⟨g7, 0, none⟩ : Addr)) b) W 3 a6 (l.length + 1) cap6 _ := ho6.sl.mono (fun b hb h => ⟨.inr (by have := hn6' b h.2.1; omega), fun h2 => by have := hn6' b h.2.1; obtain ⟨_, _, e⟩ := h2; cases e; omega⟩) (by decide)
            have hg8 := hokW.set (g := g7) (m := (l.length + 1)) rfl k (by simp) hsW hrW
            have hb8 := (bt HBC.out HB).setCell (p := ⟨g7, k, none⟩) h7n (.slice a6 (l.length + 1) cap6)
            have hq13 := (HR13C.out.below HB).other (p := ⟨g7, k, none⟩) (Ne.symm h7m) (.slice a6 (l.length + 1) cap6)
            have hq12 := (HR12C.out.below HB).other (p := ⟨g7, k, none⟩) (show w.heap.size + 1 ≠ g7 by have := HZX.out; omega) (.slice a6 (l.length + 1) cap6)
            clear hokW hrW hsW
            try clear hHeld
            have HNG : Hid (∀ b, blk (some (⟨g7, 0, none⟩ : Addr)) b → wx.heap.size ≤ b) := Lib.hid (fun b hb => by obtain ⟨_, _, e⟩ := hb; cases e; exact h7n)
            generalize (W.setCell ⟨g7, k, none⟩ (.slice a6 (l.length + 1) cap6)) = w8 at *
            go_upto_region 27 with fail
            have z0 : w8.cell? ⟨b13, 0, none⟩ = some (.int .i64 tt.n) := hq13.cell 0
            have z1 : w8.cell? ⟨b13, 1, none⟩ = some (.string tt.s) := hq13.cell 1
            have z2 : w8.cell? ⟨b13, 2, none⟩ = some (.slice (some ⟨g7, 0, none⟩) tt.kids.length cap7) := hq13.cell 2
            have y0 : w8.cell? ⟨w.heap.size + 1, 0, none⟩ = some (.int .i64 0) := hq12.cell 0
            have y1 : w8.cell? ⟨w.heap.size + 1, 1, none⟩ = some (.string ⟨#[]⟩) := hq12.cell 1
            have y2 : w8.cell? ⟨w.heap.size + 1, 2, none⟩ = some (.slice none 0 0) := hq12.cell 2
            have yf := hq12.frozen
            have yl := hq12.lt
            go_wp2_with fail
            clear z0 z1 z2 y0 y1 y2 yf yl
            rw [HE.out]
            have hq := hq12.set3 (u0 := .int .i64 tt.n) (u1 := .string tt.s) (u2 := .slice (some ⟨g7, 0, none⟩) tt.kids.length cap7)
            have z0 := hq.cell 0; have z1 := hq.cell 1; have z2 := hq.cell 2
            refine bodyPost_ret (v := .agg #[.int .i64 tt.n, .string tt.s, .slice (some ⟨g7, 0, none⟩) tt.kids.length cap7]) (by simp [results, Try.results16, go_sem, z0, z1, z2]) rfl ?_
            rw [HBT.out]
            exact turn_fin HBX.out HZX.out hb8 hg8 HNG.out HOKB.out hts
          case g4rm21 =>
          exact Go.Shr.AllReadyF.nil
      · by_cases hk0 : tt.kids.length = 0
        · have HBT : Hid (baseT which n s tt = .mk tt.n tt.s tt.kids) := Lib.hid (by rw [baseT, if_neg (by omega), if_neg (by omega), if_neg (by omega), if_pos hk0])
          rw [h6]
          clear h6
          have hk0' : ¬ (0 : Int) < (tt.kids.length : Int) := by omega
          clear hk0
          go_upto_region 27 with fail
          have hq13 := hr13
          have hq12 := hr12
          have hb8 := HBC.out
          have hg8 := HOKC.out.mono (p' := fun b => ok b ∨ wx.heap.size ≤ b) (fun k hk h => Or.inl h)
          clear w0 w1 w2 wf wl
          generalize wc = w8 at *
          have z0 : w8.cell? ⟨b13, 0, none⟩ = some (.int .i64 tt.n) := hq13.cell 0
          have z1 : w8.cell? ⟨b13, 1, none⟩ = some (.string tt.s) := hq13.cell 1
          have z2 : w8.cell? ⟨b13, 2, none⟩ = some (.slice a7 tt.kids.length cap7) := hq13.cell 2
          have y0 : w8.cell? ⟨w.heap.size + 1, 0, none⟩ = some (.int .i64 0) := hq12.cell 0
          have y1 : w8.cell? ⟨w.heap.size + 1, 1, none⟩ = some (.string ⟨#[]⟩) := hq12.cell 1
          have y2 : w8.cell? ⟨w.heap.size + 1, 2, none⟩ = some (.slice none 0 0) := hq12.cell 2
          have yf := hq12.frozen
          have yl := hq12.lt
          go_wp2_with fail
          clear z0 z1 z2 y0 y1 y2 yf yl
          rw [HE.out]
          have hq := hq12.set3 (u0 := .int .i64 tt.n) (u1 := .string tt.s) (u2 := .slice a7 tt.kids.length cap7)
          have z0 := hq.cell 0; have z1 := hq.cell 1; have z2 := hq.cell 2
          refine bodyPost_ret (v := .agg #[.int .i64 tt.n, .string tt.s, .slice a7 tt.kids.length cap7]) (by simp [results, Try.results16, go_sem, z0, z1, z2]) rfl ?_
          rw [HBT.out]
          exact turn_fin HBX.out HZX.out hb8 hg8 (fun b hb => (HNE.out b hb).1) HOKB.out hts
        · have hk0' : (0 : Int) < (tt.kids.length : Int) := by omega
          have m1 := Int.emod_nonneg n (show (tt.kids.length : Int) ≠ 0 by omega)
          have m2 := Int.emod_lt_of_pos n hk0'
          obtain ⟨k, hkx⟩ : ∃ k : Nat, n % (tt.kids.length : Int) = (k : Int) := ⟨(n % (tt.kids.length : Int)).toNat, by omega⟩
          have hkk : k < tt.kids.length := by omega
          have hkd : tt.kids.getD k [] = tt.kids[k] := by rw [List.getD_eq_getElem?_getD, List.getElem?_eq_getElem hkk]; rfl
          have hkn : (n % (tt.kids.length : Int)).toNat = k := by omega
          have HBT : Hid (baseT which n s tt = .mk tt.n tt.s (tt.kids.set k [])) := Lib.hid (by rw [baseT, if_neg (by omega), if_neg (by omega), if_neg (by omega), if_neg hk0, if_neg (by omega), if_pos h6, hkn])
          rw [h6]
          clear h6 hk0 m1 m2
          obtain ⟨g7, h7a, h7b, h7c, h7d, h7e⟩ := HOKC.out.own.pos (by omega)
          obtain ⟨la, lcap, ys, zz, hys, hrow⟩ := HOKC.out.kid.get k hkk
          have hth := ThinK.get (by cases tt; have h := HTH.out; simp only [Thin] at h; exact h.2) k hkk
          have hl1000 := hth.1
          have hkl7 := hkk
          generalize tt.kids[k] = l at *
          obtain ⟨h7n, h7m⟩ := HNE.out g7 ⟨_, _, h7a⟩
          have g0 := h7d _ _ zz
          have HFZ : Hid (∀ W : World, Below wc.heap.size wc W → W.frozen? ⟨g7, k, none⟩ = false ∧ g7 < W.heap.size) := Lib.hid (fun W hb => ⟨((bcell hb).2 g7 k h7c).trans (h7e k), Nat.lt_of_lt_of_le h7c hb.size⟩)
          have HZ := Lib.hid (And.intro w2 g0)
          have HYS := Lib.hid hys; have HROW := Lib.hid hrow; have HKX := Lib.hid hkx
          have h7l := World.block_lt_of_cell? wc _ g0
          clear h7d h7e hys hrow zz hth hkn hkd
          subst h7a
          have hkn0 : (0 : Int) ≤ (k : Int) := by omega
          have hkin : (k : Int) < (tt.kids.length : Int) := by omega
          have HR13C := Lib.hid hr13; have HR12C := Lib.hid hr12
          clear hr13 hr12 w0 w1 wf wl
          go_upto_region 23 with fail
          refine Go.Shr.wp_region_F (fun w' => w'.cell? ⟨b13, 2, none⟩ = some (.slice (some ⟨g7, 0, none⟩) tt.kids.length cap7) ∧ w'.cell? ⟨g7, k, none⟩ = some (.slice la l.length lcap)) [8] (by kernel_rfl) ?g5rgS (fun hHeld => ?g5rgR)
          case g5rgS => (try dsimp only); (first | exact ⟨HZ.out.1, HZ.out.2⟩ | exact ⟨cb HB HZ.out.1, cb HB HZ.out.2⟩)
          try dsimp only at hHeld
          obtain ⟨W, hW⟩ : ∃ W, W = wc.drew := ⟨_, rfl⟩; rw [← hW] at hHeld ⊢; (have HB : Below wc.heap.size wc W := by rw [hW]; exact (b0 wc).drew); clear hW
          refine Go.Shr.wpAnyF_take 0 (oi := { dst := some 143, op := Go.Op.fieldAddr 25 (Go.Operand.tmp 13) 2, type := 0, pos := "law.go:156", after := #[], guard := none }) (v := ?g5rv1) rfl (by kernel_rfl) (fun _ _ _ h => h) (by assumption) (by rfl) ?g5ry1 ?g5rr1
          case g5ry1 => intro w hSw; obtain ⟨s1, s2⟩ := hSw; go_simp; try with_reducible rfl
          try simp only [Act.put, List.setIfInBounds_toArray, List.set_cons_zero, List.set_cons_succ]
          refine Go.Shr.wpAnyF_take 1 (oi := { dst := some 144, op := Go.Op.load 23 (Go.Operand.tmp 143), type := 23, pos := "law.go:156", after := #[{ on := 0, ground := Go.Ground.data }], guard := none }) (v := ?g5rv2) rfl (by kernel_rfl) (fun _ _ _ h => h) (by assumption) (by rfl) ?g5ry2 ?g5rr2
          case g5ry2 => intro w hSw; obtain ⟨s1, s2⟩ := hSw; go_simp; try with_reducible rfl
          try simp only [Act.put, List.setIfInBounds_toArray, List.set_cons_zero, List.set_cons_succ]
          refine Go.Shr.wpAnyF_take 2 (oi := { dst := some 145, op := Go.Op.move (Go.Operand.tmp 4), type := 3, pos := "law.go:156", after := #[], guard := none }) (v := ?g5rv3) rfl (by kernel_rfl) (fun _ _ _ h => h) (by assumption) (by rfl) ?g5ry3 ?g5rr3
          case g5ry3 => intro w hSw; obtain ⟨s1, s2⟩ := hSw; go_simp; try with_reducible rfl
          try simp only [Act.put, List.setIfInBounds_toArray, List.set_cons_zero, List.set_cons_succ]
          refine Go.Shr.wpAnyF_take 3 (oi := { dst := some 146, op := Go.Op.fieldAddr 25 (Go.Operand.tmp 13) 2, type := 0, pos := "law.go:156", after := #[], guard := none }) (v := ?g5rv4) rfl (by kernel_rfl) (fun _ _ _ h => h) (by assumption) (by rfl) ?g5ry4 ?g5rr4
          case g5ry4 => intro w hSw; obtain ⟨s1, s2⟩ := hSw; go_simp; try with_reducible rfl
          try simp only [Act.put, List.setIfInBounds_toArray, List.set_cons_zero, List.set_cons_succ]
          refine Go.Shr.wpAnyF_take 4 (oi := { dst := some 147, op := Go.Op.load 23 (Go.Operand.tmp 146), type := 23, pos := "law.go:156", after := #[{ on := 3, ground := Go.Ground.data }], guard := none }) (v := ?g5rv5) rfl (by kernel_rfl) (fun _ _ _ h => h) (by assumption) (by rfl) ?g5ry5 ?g5rr5
          case g5ry5 => intro w hSw; obtain ⟨s1, s2⟩ := hSw; go_simp; try with_reducible rfl
          try simp only [Act.put, List.setIfInBounds_toArray, List.set_cons_zero, List.set_cons_succ]
          refine Go.Shr.wpAnyF_take 5 (oi := { dst := some 148, op := Go.Op.call { callee := Go.Callee.builtin Go.Builtin.len, args := #[Go.Operand.tmp 147], argTypes := #[23] }, type := 3, pos := "law.go:156", after := #[{ on := 4, ground := Go.Ground.data }], guard := none }) (v := ?g5rv6) rfl (by kernel_rfl) (fun _ _ _ h => h) (by assumption) (by rfl) ?g5ry6 ?g5rr6
          case g5ry6 => intro w hSw; obtain ⟨s1, s2⟩ := hSw; go_simp; try with_reducible rfl
          try simp only [Act.put, List.setIfInBounds_toArray, List.set_cons_zero, List.set_cons_succ]
          refine Go.Shr.wpAnyF_ready [6] (by kernel_rfl) (by simp) ?_
          refine Go.Shr.AllReadyF.cons 6 (o := { dst := some 149, op := Go.Op.call { callee := Go.Callee.value (Go.Operand.func 17), args := #[Go.Operand.tmp 145, Go.Operand.tmp 148], argTypes := #[3, 3] }, type := 3, pos := "law.go:156", after := #[{ on := 2, ground := Go.Ground.data }, { on := 5, ground := Go.Ground.data }], guard := none }) rfl (fun K hK => ?g5ro7) ?g5rm7
          case g5rm7 => exact Go.Shr.AllReadyF.nil
          go_simp; refine (within_8 n (tt.kids.length : Int) _ hk0' (by omega)).mono ?_; rintro e w9 ⟨rfl, rfl⟩; rw [HKX.out]; dsimp only
          refine hK.out _ _ ?g5rs7 (fun hHeld => ?g5rt7)
          case g5rs7 => (try dsimp only); (first | exact ⟨HZ.out.1, HZ.out.2⟩ | exact ⟨cb HB HZ.out.1, cb HB HZ.out.2⟩)
          try dsimp only at hHeld
          clear hK K
          try simp only [Act.put, List.setIfInBounds_toArray, List.set_cons_zero, List.set_cons_succ]
          refine Go.Shr.wpAnyF_take 7 (oi := { dst := some 150, op := Go.Op.indexAddr 23 (Go.Operand.tmp 144) (Go.Operand.tmp 149), type := 0, pos := "law.go:156", after := #[{ on := 1, ground := Go.Ground.data }, { on := 6, ground := Go.Ground.data }, { on := 0, ground := Go.Ground.phase }, { on := 1, ground := Go.Ground.phase }, { on := 2, ground := Go.Ground.phase }, { on := 3, ground := Go.Ground.phase }, { on := 4, ground := Go.Ground.phase }, { on := 5, ground := Go.Ground.phase }, { on := 6, ground := Go.Ground.phase }], guard := none }) (v := ?g5rv8) rfl (by kernel_rfl) (fun _ _ _ h => h) (by assumption) (by rfl) ?g5ry8 ?g5rr8
          case g5ry8 => intro w hSw; obtain ⟨s1, s2⟩ := hSw; go_simp; try with_reducible rfl
          try simp only [Act.put, List.setIfInBounds_toArray, List.set_cons_zero, List.set_cons_succ]
          refine Go.Shr.wpAnyF_ready [8] (by kernel_rfl) (by simp) ?_
          refine Go.Shr.AllReadyF.last 8 (o := { dst := none, op := Go.Op.store 40 (Go.Operand.tmp 150) (Go.Operand.const (Go.Value.slice none 0 0)), type := 0, pos := "law.go:156", after := #[{ on := 7, ground := Go.Ground.data }, { on := 6, ground := Go.Ground.chain }, { on := 0, ground := Go.Ground.phase }, { on := 1, ground := Go.Ground.phase }, { on := 2, ground := Go.Ground.phase }, { on := 3, ground := Go.Ground.phase }, { on := 4, ground := Go.Ground.phase }, { on := 5, ground := Go.Ground.phase }, { on := 6, ground := Go.Ground.phase }], guard := none }) rfl (by kernel_rfl) (fun K hK => ?g5ro9) ?g5rm9
          case g5rm9 => exact Go.Shr.AllReadyF.nil
          (obtain ⟨qf, ql⟩ := HFZ.out W HB); (have qc := cb HB HZ.out.2); go_simp; clear qf ql qc
          refine hK.out _ _ ?_
          clear hK K
          try simp only [Act.put, List.setIfInBounds_toArray, List.set_cons_zero, List.set_cons_succ]
          refine Go.Shr.wpAnyF_done (by kernel_rfl) ?_
          have hszW := HB.size
          have hokW := (HOKC.out.below HB).mono (p' := fun b => ok b ∨ wx.heap.size ≤ b) (fun k hk h => Or.inl h)
          have hszx := HBX.out.size
          have hszb := HBC.out.size
          have hrW : RowG (fun b => (ok b ∨ wx.heap.size ≤ b) ∧ ¬ blk (some (⟨g7, 0, none⟩ : Addr)) b) W ([]) [] := by simp [RowG]
          have hsW : Sl (fun b => (ok b ∨ wx.heap.size ≤ b) ∧ ¬ blk (some (⟨g7, 0, none⟩ : Addr)) b) W 3 none 0 0 [] := Sl.nil _ _ _ _
          have hg8 := hokW.set (g := g7) (m := 0) rfl k rfl hsW hrW
          have hb8 := (bt HBC.out HB).setCell (p := ⟨g7, k, none⟩) h7n (.slice none 0 0)
          have hq13 := (HR13C.out.below HB).other (p := ⟨g7, k, none⟩) (Ne.symm h7m) (.slice none 0 0)
          have hq12 := (HR12C.out.below HB).other (p := ⟨g7, k, none⟩) (show w.heap.size + 1 ≠ g7 by have := HZX.out; omega) (.slice none 0 0)
          clear hokW hrW hsW
          try clear hHeld
          have HNG : Hid (∀ b, blk (some (⟨g7, 0, none⟩ : Addr)) b → wx.heap.size ≤ b) := Lib.hid (fun b hb => by obtain ⟨_, _, e⟩ := hb; cases e; exact h7n)
          generalize (W.setCell ⟨g7, k, none⟩ (.slice none 0 0)) = w8 at *
          go_upto_region 27 with fail
          have z0 : w8.cell? ⟨b13, 0, none⟩ = some (.int .i64 tt.n) := hq13.cell 0
          have z1 : w8.cell? ⟨b13, 1, none⟩ = some (.string tt.s) := hq13.cell 1
          have z2 : w8.cell? ⟨b13, 2, none⟩ = some (.slice (some ⟨g7, 0, none⟩) tt.kids.length cap7) := hq13.cell 2
          have y0 : w8.cell? ⟨w.heap.size + 1, 0, none⟩ = some (.int .i64 0) := hq12.cell 0
          have y1 : w8.cell? ⟨w.heap.size + 1, 1, none⟩ = some (.string ⟨#[]⟩) := hq12.cell 1
          have y2 : w8.cell? ⟨w.heap.size + 1, 2, none⟩ = some (.slice none 0 0) := hq12.cell 2
          have yf := hq12.frozen
          have yl := hq12.lt
          go_wp2_with fail
          clear z0 z1 z2 y0 y1 y2 yf yl
          rw [HE.out]
          have hq := hq12.set3 (u0 := .int .i64 tt.n) (u1 := .string tt.s) (u2 := .slice (some ⟨g7, 0, none⟩) tt.kids.length cap7)
          have z0 := hq.cell 0; have z1 := hq.cell 1; have z2 := hq.cell 2
          refine bodyPost_ret (v := .agg #[.int .i64 tt.n, .string tt.s, .slice (some ⟨g7, 0, none⟩) tt.kids.length cap7]) (by simp [results, Try.results16, go_sem, z0, z1, z2]) rfl ?_
          rw [HBT.out]
          exact turn_fin HBX.out HZX.out hb8 hg8 HNG.out HOKB.out hts
      · by_cases hk0 : tt.kids.length = 0
        · have HBT : Hid (baseT which n s tt = .mk tt.n tt.s tt.kids) := Lib.hid (by rw [baseT, if_neg (by omega), if_neg (by omega), if_neg (by omega), if_pos hk0])
          rw [h6]
          clear h6
          have hk0' : ¬ (0 : Int) < (tt.kids.length : Int) := by omega
          clear hk0
          go_upto_region 27 with fail
          have hq13 := hr13
          have hq12 := hr12
          have hb8 := HBC.out
          have hg8 := HOKC.out.mono (p' := fun b => ok b ∨ wx.heap.size ≤ b) (fun k hk h => Or.inl h)
          clear w0 w1 w2 wf wl
          generalize wc = w8 at *
          have z0 : w8.cell? ⟨b13, 0, none⟩ = some (.int .i64 tt.n) := hq13.cell 0
          have z1 : w8.cell? ⟨b13, 1, none⟩ = some (.string tt.s) := hq13.cell 1
          have z2 : w8.cell? ⟨b13, 2, none⟩ = some (.slice a7 tt.kids.length cap7) := hq13.cell 2
          have y0 : w8.cell? ⟨w.heap.size + 1, 0, none⟩ = some (.int .i64 0) := hq12.cell 0
          have y1 : w8.cell? ⟨w.heap.size + 1, 1, none⟩ = some (.string ⟨#[]⟩) := hq12.cell 1
          have y2 : w8.cell? ⟨w.heap.size + 1, 2, none⟩ = some (.slice none 0 0) := hq12.cell 2
          have yf := hq12.frozen
          have yl := hq12.lt
          go_wp2_with fail
          clear z0 z1 z2 y0 y1 y2 yf yl
          rw [HE.out]
          have hq := hq12.set3 (u0 := .int .i64 tt.n) (u1 := .string tt.s) (u2 := .slice a7 tt.kids.length cap7)
          have z0 := hq.cell 0; have z1 := hq.cell 1; have z2 := hq.cell 2
          refine bodyPost_ret (v := .agg #[.int .i64 tt.n, .string tt.s, .slice a7 tt.kids.length cap7]) (by simp [results, Try.results16, go_sem, z0, z1, z2]) rfl ?_
          rw [HBT.out]
          exact turn_fin HBX.out HZX.out hb8 hg8 (fun b hb => (HNE.out b hb).1) HOKB.out hts
        · have hk0' : (0 : Int) < (tt.kids.length : Int) := by omega
          have m1 := Int.emod_nonneg n (show (tt.kids.length : Int) ≠ 0 by omega)
          have m2 := Int.emod_lt_of_pos n hk0'
          obtain ⟨k, hkx⟩ : ∃ k : Nat, n % (tt.kids.length : Int) = (k : Int) := ⟨(n % (tt.kids.length : Int)).toNat, by omega⟩
          have hkk : k < tt.kids.length := by omega
          have hkd : tt.kids.getD k [] = tt.kids[k] := by rw [List.getD_eq_getElem?_getD, List.getElem?_eq_getElem hkk]; rfl
          have hkn : (n % (tt.kids.length : Int)).toNat = k := by omega
          have HBT : Hid (baseT which n s tt = .mk tt.n tt.s (tt.kids.set k (List.replicate 51 zeroT))) := Lib.hid (by rw [baseT, if_neg (by omega), if_neg (by omega), if_neg (by omega), if_neg hk0, if_neg (by omega), if_neg (by omega), hkn])
          rw [h6]
          clear h6 hk0 m1 m2
          obtain ⟨g7, h7a, h7b, h7c, h7d, h7e⟩ := HOKC.out.own.pos (by omega)
          obtain ⟨la, lcap, ys, zz, hys, hrow⟩ := HOKC.out.kid.get k hkk
          have hth := ThinK.get (by cases tt; have h := HTH.out; simp only [Thin] at h; exact h.2) k hkk
          have hl1000 := hth.1
          have hkl7 := hkk
          generalize tt.kids[k] = l at *
          obtain ⟨h7n, h7m⟩ := HNE.out g7 ⟨_, _, h7a⟩
          have g0 := h7d _ _ zz
          have HFZ : Hid (∀ W : World, Below wc.heap.size wc W → W.frozen? ⟨g7, k, none⟩ = false ∧ g7 < W.heap.size) := Lib.hid (fun W hb => ⟨((bcell hb).2 g7 k h7c).trans (h7e k), Nat.lt_of_lt_of_le h7c hb.size⟩)
          have HZ := Lib.hid (And.intro w2 g0)
          have HYS := Lib.hid hys; have HROW := Lib.hid hrow; have HKX := Lib.hid hkx
          have h7l := World.block_lt_of_cell? wc _ g0
          clear h7d h7e hys hrow zz hth hkn hkd
          subst h7a
          have hkn0 : (0 : Int) ≤ (k : Int) := by omega
          have hkin : (k : Int) < (tt.kids.length : Int) := by omega
          have HR13C := Lib.hid hr13; have HR12C := Lib.hid hr12
          clear hr13 hr12 w0 w1 wf wl
          go_upto_region 26 with fail
          refine Go.Shr.wp_region_F (fun w' => w'.cell? ⟨b13, 2, none⟩ = some (.slice (some ⟨g7, 0, none⟩) tt.kids.length cap7) ∧ w'.cell? ⟨g7, k, none⟩ = some (.slice la l.length lcap)) [9] (by kernel_rfl) ?g6rgS (fun hHeld => ?g6rgR)
          case g6rgS => (try dsimp only); (first | exact ⟨HZ.out.1, HZ.out.2⟩ | exact ⟨cb HB HZ.out.1, cb HB HZ.out.2⟩)
          try dsimp only at hHeld
          obtain ⟨W, hW⟩ : ∃ W, W = wc.drew := ⟨_, rfl⟩; rw [← hW] at hHeld ⊢; (have HB : Below wc.heap.size wc W := by rw [hW]; exact (b0 wc).drew); clear hW
          refine Go.Shr.wpAnyF_take 0 (oi := { dst := some 157, op := Go.Op.fieldAddr 25 (Go.Operand.tmp 13) 2, type := 0, pos := "law.go:160", after := #[], guard := none }) (v := ?g6rv1) rfl (by kernel_rfl) (fun _ _ _ h => h) (by assumption) (by rfl) ?g6ry1 ?g6rr1
          case g6ry1 => intro w hSw; obtain ⟨s1, s2⟩ := hSw; go_simp; try with_reducible rfl
          try simp only [Act.put, List.setIfInBounds_toArray, List.set_cons_zero, List.set_cons_succ]
          refine Go.Shr.wpAnyF_take 1 (oi := { dst := some 158, op := Go.Op.load 23 (Go.Operand.tmp 157), type := 23, pos := "law.go:160", after := #[{ on := 0, ground := Go.Ground.data }], guard := none }) (v := ?g6rv2) rfl (by kernel_rfl) (fun _ _ _ h => h) (by assumption) (by rfl) ?g6ry2 ?g6rr2
          case g6ry2 => intro w hSw; obtain ⟨s1, s2⟩ := hSw; go_simp; try with_reducible rfl
          try simp only [Act.put, List.setIfInBounds_toArray, List.set_cons_zero, List.set_cons_succ]
          refine Go.Shr.wpAnyF_take 2 (oi := { dst := some 159, op := Go.Op.move (Go.Operand.tmp 4), type := 3, pos := "law.go:160", after := #[], guard := none }) (v := ?g6rv3) rfl (by kernel_rfl) (fun _ _ _ h => h) (by assumption) (by rfl) ?g6ry3 ?g6rr3
          case g6ry3 => intro w hSw; obtain ⟨s1, s2⟩ := hSw; go_simp; try with_reducible rfl
          try simp only [Act.put, List.setIfInBounds_toArray, List.set_cons_zero, List.set_cons_succ]
          refine Go.Shr.wpAnyF_take 3 (oi := { dst := some 160, op := Go.Op.fieldAddr 25 (Go.Operand.tmp 13) 2, type := 0, pos := "law.go:160", after := #[], guard := none }) (v := ?g6rv4) rfl (by kernel_rfl) (fun _ _ _ h => h) (by assumption) (by rfl) ?g6ry4 ?g6rr4
          case g6ry4 => intro w hSw; obtain ⟨s1, s2⟩ := hSw; go_simp; try with_reducible rfl
          try simp only [Act.put, List.setIfInBounds_toArray, List.set_cons_zero, List.set_cons_succ]
          refine Go.Shr.wpAnyF_take 4 (oi := { dst := some 161, op := Go.Op.load 23 (Go.Operand.tmp 160), type := 23, pos := "law.go:160", after := #[{ on := 3, ground := Go.Ground.data }], guard := none }) (v := ?g6rv5) rfl (by kernel_rfl) (fun _ _ _ h => h) (by assumption) (by rfl) ?g6ry5 ?g6rr5
          case g6ry5 => intro w hSw; obtain ⟨s1, s2⟩ := hSw; go_simp; try with_reducible rfl
          try simp only [Act.put, List.setIfInBounds_toArray, List.set_cons_zero, List.set_cons_succ]
          refine Go.Shr.wpAnyF_take 5 (oi := { dst := some 162, op := Go.Op.call { callee := Go.Callee.builtin Go.Builtin.len, args := #[Go.Operand.tmp 161], argTypes := #[23] }, type := 3, pos := "law.go:160", after := #[{ on := 4, ground := Go.Ground.data }], guard := none }) (v := ?g6rv6) rfl (by kernel_rfl) (fun _ _ _ h => h) (by assumption) (by rfl) ?g6ry6 ?g6rr6
          case g6ry6 => intro w hSw; obtain ⟨s1, s2⟩ := hSw; go_simp; try with_reducible rfl
          try simp only [Act.put, List.setIfInBounds_toArray, List.set_cons_zero, List.set_cons_succ]
          refine Go.Shr.wpAnyF_ready [6, 7] (by kernel_rfl) (by simp) ?_
          refine Go.Shr.AllReadyF.cons 6 (o := { dst := some 163, op := Go.Op.call { callee := Go.Callee.value (Go.Operand.func 17), args := #[Go.Operand.tmp 159, Go.Operand.tmp 162], argTypes := #[3, 3] }, type := 3, pos := "law.go:160", after := #[{ on := 2, ground := Go.Ground.data }, { on := 5, ground := Go.Ground.data }], guard := none }) rfl (fun K hK => ?g6ro7) ?g6rm7
          case g6ro7 =>
            go_simp; refine (within_8 n (tt.kids.length : Int) _ hk0' (by omega)).mono ?_; rintro e w9 ⟨rfl, rfl⟩; rw [HKX.out]; dsimp only
            refine hK.out _ _ ?g6rs7 (fun hHeld => ?g6rt7)
            case g6rs7 => (try dsimp only); (first | exact ⟨HZ.out.1, HZ.out.2⟩ | exact ⟨cb HB HZ.out.1, cb HB HZ.out.2⟩)
            try dsimp only at hHeld
            clear hK K
            try simp only [Act.put, List.setIfInBounds_toArray, List.set_cons_zero, List.set_cons_succ]
            refine Go.Shr.wpAnyF_ready [7] (by kernel_rfl) (by simp) ?_
            refine Go.Shr.AllReadyF.cons 7 (o := { dst := some 164, op := Go.Op.makeSlice 40 (Go.Operand.const (Go.Value.int Go.IntKind.i64 51)) (Go.Operand.const (Go.Value.int Go.IntKind.i64 51)), type := 40, pos := "law.go:160", after := #[], guard := none }) rfl (fun K hK => ?g6ro8) ?g6rm8
            case g6rm8 => exact Go.Shr.AllReadyF.nil
            (obtain ⟨b7, hb7⟩ : ∃ b7, b7 = W.heap.size := ⟨_, rfl⟩); (have hmk := make51 W); go_simp; clear hmk; rw [← hb7]; refine gen_w (fun W hW => ?_); (have r7 := Rw.ren hW (Rw.fresh HB zeros51 25)); rw [← hb7] at r7; (have hge7 : wc.heap.size ≤ b7 := by rw [hb7]; exact HB.size); (replace HB := Go.Shr.Below.ren hW (ba HB _)); clear hW hb7
            refine hK.out _ _ ?g6rs8 (fun hHeld => ?g6rt8)
            case g6rs8 => (try dsimp only); (first | exact ⟨HZ.out.1, HZ.out.2⟩ | exact ⟨cb HB HZ.out.1, cb HB HZ.out.2⟩)
            try dsimp only at hHeld
            clear hK K
            try simp only [Act.put, List.setIfInBounds_toArray, List.set_cons_zero, List.set_cons_succ]
            refine Go.Shr.wpAnyF_take 8 (oi := { dst := some 165, op := Go.Op.indexAddr 23 (Go.Operand.tmp 158) (Go.Operand.tmp 163), type := 0, pos := "law.go:160", after := #[{ on := 1, ground := Go.Ground.data }, { on := 6, ground := Go.Ground.data }, { on := 0, ground := Go.Ground.phase }, { on := 1, ground := Go.Ground.phase }, { on := 2, ground := Go.Ground.phase }, { on := 3, ground := Go.Ground.phase }, { on := 4, ground := Go.Ground.phase }, { on := 5, ground := Go.Ground.phase }, { on := 6, ground := Go.Ground.phase }, { on := 7, ground := Go.Ground.phase }], guard := none }) (v := ?g6rv9) rfl (by kernel_rfl) (fun _ _ _ h => h) (by assumption) (by rfl) ?g6ry9 ?g6rr9
            case g6ry9 => intro w hSw; obtain ⟨s1, s2⟩ := hSw; go_simp; try with_reducible rfl
            try simp only [Act.put, List.setIfInBounds_toArray, List.set_cons_zero, List.set_cons_succ]
            refine Go.Shr.wpAnyF_ready [9] (by kernel_rfl) (by simp) ?_
            refine Go.Shr.AllReadyF.last 9 (o := { dst := none, op := Go.Op.store 40 (Go.Operand.tmp 165) (Go.Operand.tmp 164), type := 0, pos := "law.go:160", after := #[{ on := 8, ground := Go.Ground.data }, { on := 7, ground := Go.Ground.data }, { on := 6, ground := Go.Ground.chain }, { on := 0, ground := Go.Ground.phase }, { on := 1, ground := Go.Ground.phase }, { on := 2, ground := Go.Ground.phase }, { on := 3, ground := Go.Ground.phase }, { on := 4, ground := Go.Ground.phase }, { on := 5, ground := Go.Ground.phase }, { on := 6, ground := Go.Ground.phase }, { on := 7, ground := Go.Ground.phase }], guard := none }) rfl (by kernel_rfl) (fun K hK => ?g6ro10) ?g6rm10
            case g6rm10 => exact Go.Shr.AllReadyF.nil
            (obtain ⟨qf, ql⟩ := HFZ.out W HB); (have qc := cb HB HZ.out.2); go_simp; clear qf ql qc
            refine hK.out _ _ ?_
            clear hK K
            try simp only [Act.put, List.setIfInBounds_toArray, List.set_cons_zero, List.set_cons_succ]
            refine Go.Shr.wpAnyF_done (by kernel_rfl) ?_
            have hszW := HB.size
            have hokW := (HOKC.out.below HB).mono (p' := fun b => ok b ∨ wx.heap.size ≤ b) (fun k hk h => Or.inl h)
            have hszx := HBX.out.size
            have hszb := HBC.out.size
            have hrW : RowG (fun b => (ok b ∨ wx.heap.size ≤ b) ∧ ¬ blk (some (⟨g7, 0, none⟩ : Addr)) b) W (List.replicate 51 zeroT) _ := zeros_row _ _ 51
            have hsW : Sl (fun b => (ok b ∨ wx.heap.size ≤ b) ∧ ¬ blk (some (⟨g7, 0, none⟩ : Addr)) b) W 3 (some ⟨b7, 0, none⟩) 51 51 _ := zeros_sl r7 ⟨.inr (by omega), fun h2 => by obtain ⟨_, _, e⟩ := h2; cases e; omega⟩
            have hg8 := hokW.set (g := g7) (m := 51) rfl k (by simp) hsW hrW
            have hb8 := (bt HBC.out HB).setCell (p := ⟨g7, k, none⟩) h7n (.slice (some ⟨b7, 0, none⟩) 51 51)
            have hq13 := (HR13C.out.below HB).other (p := ⟨g7, k, none⟩) (Ne.symm h7m) (.slice (some ⟨b7, 0, none⟩) 51 51)
            have hq12 := (HR12C.out.below HB).other (p := ⟨g7, k, none⟩) (show w.heap.size + 1 ≠ g7 by have := HZX.out; omega) (.slice (some ⟨b7, 0, none⟩) 51 51)
            clear hokW hrW hsW
            try clear hHeld
            have HNG : Hid (∀ b, blk (some (⟨g7, 0, none⟩ : Addr)) b → wx.heap.size ≤ b) := Lib.hid (fun b hb => by obtain ⟨_, _, e⟩ := hb; cases e; exact h7n)
            generalize (W.setCell ⟨g7, k, none⟩ (.slice (some ⟨b7, 0, none⟩) 51 51)) = w8 at *
            go_upto_region 27 with fail
            have z0 : w8.cell? ⟨b13, 0, none⟩ = some (.int .i64 tt.n) := hq13.cell 0
            have z1 : w8.cell? ⟨b13, 1, none⟩ = some (.string tt.s) := hq13.cell 1
            have z2 : w8.cell? ⟨b13, 2, none⟩ = some (.slice (some ⟨g7, 0, none⟩) tt.kids.length cap7) := hq13.cell 2
            have y0 : w8.cell? ⟨w.heap.size + 1, 0, none⟩ = some (.int .i64 0) := hq12.cell 0
            have y1 : w8.cell? ⟨w.heap.size + 1, 1, none⟩ = some (.string ⟨#[]⟩) := hq12.cell 1
            have y2 : w8.cell? ⟨w.heap.size + 1, 2, none⟩ = some (.slice none 0 0) := hq12.cell 2
            have yf := hq12.frozen
            have yl := hq12.lt
            go_wp2_with fail
            clear z0 z1 z2 y0 y1 y2 yf yl
            rw [HE.out]
            have hq := hq12.set3 (u0 := .int .i64 tt.n) (u1 := .string tt.s) (u2 := .slice (some ⟨g7, 0, none⟩) tt.kids.length cap7)
            have z0 := hq.cell 0; have z1 := hq.cell 1; have z2 := hq.cell 2
            refine bodyPost_ret (v := .agg #[.int .i64 tt.n, .string tt.s, .slice (some ⟨g7, 0, none⟩) tt.kids.length cap7]) (by simp [results, Try.results16, go_sem, z0, z1, z2]) rfl ?_
            rw [HBT.out]
            exact turn_fin HBX.out HZX.out hb8 hg8 HNG.out HOKB.out hts
          case g6rm7 =>
          refine Go.Shr.AllReadyF.cons 7 (o := { dst := some 164, op := Go.Op.makeSlice 40 (Go.Operand.const (Go.Value.int Go.IntKind.i64 51)) (Go.Operand.const (Go.Value.int Go.IntKind.i64 51)), type := 40, pos := "law.go:160", after := #[], guard := none }) rfl (fun K hK => ?g6ro11) ?g6rm11
          case g6ro11 =>
            (obtain ⟨b7, hb7⟩ : ∃ b7, b7 = W.heap.size := ⟨_, rfl⟩); (have hmk := make51 W); go_simp; clear hmk; rw [← hb7]; refine gen_w (fun W hW => ?_); (have r7 := Rw.ren hW (Rw.fresh HB zeros51 25)); rw [← hb7] at r7; (have hge7 : wc.heap.size ≤ b7 := by rw [hb7]; exact HB.size); (replace HB := Go.Shr.Below.ren hW (ba HB _)); clear hW hb7
            refine hK.out _ _ ?g6rs11 (fun hHeld => ?g6rt11)
            case g6rs11 => (try dsimp only); (first | exact ⟨HZ.out.1, HZ.out.2⟩ | exact ⟨cb HB HZ.out.1, cb HB HZ.out.2⟩)
            try dsimp only at hHeld
            clear hK K
            try simp only [Act.put, List.setIfInBounds_toArray, List.set_cons_zero, List.set_cons_succ]
            refine Go.Shr.wpAnyF_ready [6] (by kernel_rfl) (by simp) ?_
            refine Go.Shr.AllReadyF.cons 6 (o := { dst := some 163, op := Go.Op.call { callee := Go.Callee.value (Go.Operand.func 17), args := #[Go.Operand.tmp 159, Go.Operand.tmp 162], argTypes := #[3, 3] }, type := 3, pos := "law.go:160", after := #[{ on := 2, ground := Go.Ground.data }, { on := 5, ground := Go.Ground.data }], guard := none }) rfl (fun K hK => ?g6ro12) ?g6rm12
            case g6rm12 => exact Go.Shr.AllReadyF.nil
            go_simp; refine (within_8 n (tt.kids.length : Int) _ hk0' (by omega)).mono ?_; rintro e w9 ⟨rfl, rfl⟩; rw [HKX.out]; dsimp only
            refine hK.out _ _ ?g6rs12 (fun hHeld => ?g6rt12)
            case g6rs12 => (try dsimp only); (first | exact ⟨HZ.out.1, HZ.out.2⟩ | exact ⟨cb HB HZ.out.1, cb HB HZ.out.2⟩)
            try dsimp only at hHeld
            clear hK K
            try simp only [Act.put, List.setIfInBounds_toArray, List.set_cons_zero, List.set_cons_succ]
            refine Go.Shr.wpAnyF_take 8 (oi := { dst := some 165, op := Go.Op.indexAddr 23 (Go.Operand.tmp 158) (Go.Operand.tmp 163), type := 0, pos := "law.go:160", after := #[{ on := 1, ground := Go.Ground.data }, { on := 6, ground := Go.Ground.data }, { on := 0, ground := Go.Ground.phase }, { on := 1, ground := Go.Ground.phase }, { on := 2, ground := Go.Ground.phase }, { on := 3, ground := Go.Ground.phase }, { on := 4, ground := Go.Ground.phase }, { on := 5, ground := Go.Ground.phase }, { on := 6, ground := Go.Ground.phase }, { on := 7, ground := Go.Ground.phase }], guard := none }) (v := ?g6rv13) rfl (by kernel_rfl) (fun _ _ _ h => h) (by assumption) (by rfl) ?g6ry13 ?g6rr13
            case g6ry13 => intro w hSw; obtain ⟨s1, s2⟩ := hSw; go_simp; try with_reducible rfl
            try simp only [Act.put, List.setIfInBounds_toArray, List.set_cons_zero, List.set_cons_succ]
            refine Go.Shr.wpAnyF_ready [9] (by kernel_rfl) (by simp) ?_
            refine Go.Shr.AllReadyF.last 9 (o := { dst := none, op := Go.Op.store 40 (Go.Operand.tmp 165) (Go.Operand.tmp 164), type := 0, pos := "law.go:160", after := #[{ on := 8, ground := Go.Ground.data }, { on := 7, ground := Go.Ground.data }, { on := 6, ground := Go.Ground.chain }, { on := 0, ground := Go.Ground.phase }, { on := 1, ground := Go.Ground.phase }, { on := 2, ground := Go.Ground.phase }, { on := 3, ground := Go.Ground.phase }, { on := 4, ground := Go.Ground.phase }, { on := 5, ground := Go.Ground.phase }, { on := 6, ground := Go.Ground.phase }, { on := 7, ground := Go.Ground.phase }], guard := none }) rfl (by kernel_rfl) (fun K hK => ?g6ro14) ?g6rm14
            case g6rm14 => exact Go.Shr.AllReadyF.nil
            (obtain ⟨qf, ql⟩ := HFZ.out W HB); (have qc := cb HB HZ.out.2); go_simp; clear qf ql qc
            refine hK.out _ _ ?_
            clear hK K
            try simp only [Act.put, List.setIfInBounds_toArray, List.set_cons_zero, List.set_cons_succ]
            refine Go.Shr.wpAnyF_done (by kernel_rfl) ?_
            have hszW := HB.size
            have hokW := (HOKC.out.below HB).mono (p' := fun b => ok b ∨ wx.heap.size ≤ b) (fun k hk h => Or.inl h)
            have hszx := HBX.out.size
            have hszb := HBC.out.size
            have hrW : RowG (fun b => (ok b ∨ wx.heap.size ≤ b) ∧ ¬ blk (some (⟨g7, 0, none⟩ : Addr)) b) W (List.replicate 51 zeroT) _ := zeros_row _ _ 51
            have hsW : Sl (fun b => (ok b ∨ wx.heap.size ≤ b) ∧ ¬ blk (some (⟨g7, 0, none⟩ : Addr)) b) W 3 (some ⟨b7, 0, none⟩) 51 51 _ := zeros_sl r7 ⟨.inr (by omega), fun h2 => by obtain ⟨_, _, e⟩ := h2; cases e; omega⟩
            have hg8 := hokW.set (g := g7) (m := 51) rfl k (by simp) hsW hrW
            have hb8 := (bt HBC.out HB).setCell (p := ⟨g7, k, none⟩) h7n (.slice (some ⟨b7, 0, none⟩) 51 51)
            have hq13 := (HR13C.out.below HB).other (p := ⟨g7, k, none⟩) (Ne.symm h7m) (.slice (some ⟨b7, 0, none⟩) 51 51)
            have hq12 := (HR12C.out.below HB).other (p := ⟨g7, k, none⟩) (show w.heap.size + 1 ≠ g7 by have := HZX.out; omega) (.slice (some ⟨b7, 0, none⟩) 51 51)
            clear hokW hrW hsW
            try clear hHeld
            have HNG : Hid (∀ b, blk (some (⟨g7, 0, none⟩ : Addr)) b → wx.heap.size ≤ b) := Lib.hid (fun b hb => by obtain ⟨_, _, e⟩ := hb; cases e; exact h7n)
            generalize (W.setCell ⟨g7, k, none⟩ (.slice (some ⟨b7, 0, none⟩) 51 51)) = w8 at *
            go_upto_region 27 with fail
            have z0 : w8.cell? ⟨b13, 0, none⟩ = some (.int .i64 tt.n) := hq13.cell 0
            have z1 : w8.cell? ⟨b13, 1, none⟩ = some (.string tt.s) := hq13.cell 1
            have z2 : w8.cell? ⟨b13, 2, none⟩ = some (.slice (some ⟨g7, 0, none⟩) tt.kids.length cap7) := hq13.cell 2
            have y0 : w8.cell? ⟨w.heap.size + 1, 0, none⟩ = some (.int .i64 0) := hq12.cell 0
            have y1 : w8.cell? ⟨w.heap.size + 1, 1, none⟩ = some (.string ⟨#[]⟩) := hq12.cell 1
            have y2 : w8.cell? ⟨w.heap.size + 1, 2, none⟩ = some (.slice none 0 0) := hq12.cell 2
            have yf := hq12.frozen
            have yl := hq12.lt
            go_wp2_with fail
            clear z0 z1 z2 y0 y1 y2 yf yl
            rw [HE.out]
            have hq := hq12.set3 (u0 := .int .i64 tt.n) (u1 := .string tt.s) (u2 := .slice (some ⟨g7, 0, none⟩) tt.kids.length cap7)
            have z0 := hq.cell 0; have z1 := hq.cell 1; have z2 := hq.cell 2
            refine bodyPost_ret (v := .agg #[.int .i64 tt.n, .string tt.s, .slice (some ⟨g7, 0, none⟩) tt.kids.length cap7]) (by simp [results, Try.results16, go_sem, z0, z1, z2]) rfl ?_
            rw [HBT.out]
            exact turn_fin HBX.out HZX.out hb8 hg8 HNG.out HOKB.out hts
          case g6rm11 =>
          exact Go.Shr.AllReadyF.nil
theorem turn_v (aa0 : Option Addr) (an ac : Nat) (ats : List Int) (which n : Int) (s : ByteArray) (hw : ∀ z ∈ ats, (Lit.int .i64 z).wf = true) (hss : s.size ≤ maxLen) : ∀ (f i : Nat), f + i = 6 → TurnOk aa0 an ac ats which n s f i
  | 0, i, h => turn_step aa0 an ac ats which n s hw hss 0 i h (fun h => by omega)
  | f + 1, i, h => turn_step aa0 an ac ats which n s hw hss (f + 1) i h (fun _ => turn_v aa0 an ac ats which n s hw hss f (i + 1) (by omega))
end Go.Proofs.Ytdgcgkmejejccaa
