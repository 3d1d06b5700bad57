/-
  The walk of TreeFirst.
-/
import Derived.Test.YtdgcgkmejejccaaLit8
set_option linter.unusedSimpArgs false
namespace Go.Proofs.Ytdgcgkmejejccaa
open Go.RowKit Go.Shr
def twoL : List Fl := [⟨⟨#[109]⟩, 0, 0, 2⟩, ⟨⟨#[97]⟩, 0, 1, 0⟩, ⟨⟨#[98]⟩, 0, 1, 0⟩]
theorem twoL_wf : Wf twoL := ⟨by decide, by decide, by simp [twoL], by simp [twoL]⟩
theorem twoL_par : par twoL = [-1, 0, 0] := by simp [par, twoL, parF, parS, popS, nextS]
theorem twoL_kids : KF twoL 0 = [1, 2] := by
  unfold KF; rw [twoL_par]
  rw [show ([-1, 0, 0] : List Int) = [-1, 0] ++ [0] from rfl, kidsOf_snoc, kidsOf_two]; rfl
theorem fit3 (x y : List Tr) (W : World) (b : Nat) (a : Option Addr) (hS : Sl (fun b => b < W.heap.size) W 4 (some ⟨b, 0, none⟩) 3 3 (fls twoL)) (hT : TrAt W (.mk 0 ⟨#[]⟩ [x, y]) [.int .i64 0, .string ⟨#[]⟩, .slice a 2 2]) :
    Calls Try.prog 14 #[.slice (some ⟨b, 0, none⟩) 3 3, .agg #[.int .i64 0, .string ⟨#[]⟩, .slice a 2 2]] W fun e w' => e = .returned (.int .i64 (if fitA twoL (KF twoL) x 1 ≠ 0 then fitA twoL (KF twoL) x 1 else fitA twoL (KF twoL) y 2)) ∧ Below W.heap.size W w' := by
  have h := Fits_v twoL twoL_wf (.mk 0 ⟨#[]⟩ [x, y]) (some ⟨b, 0, none⟩) 3 3 a 2 W hS hT
  have e : fitT twoL (KF twoL) (.mk 0 ⟨#[]⟩ [x, y]) 0 = if fitA twoL (KF twoL) x 1 ≠ 0 then fitA twoL (KF twoL) x 1 else fitA twoL (KF twoL) y 2 := by
    rw [fitT_eq, twoL_kids]
    have h1 : (flAt twoL 0).kind = 0 := rfl
    rw [h1, if_neg (by decide), if_neg (by simp [Tr.n, Tr.s, Tr.kids, emptyS])]
    simp only [Tr.kids]
    rw [fitK_cons, fitK_cons]
    simp only [List.headD_cons, List.tail_cons]
    have e0 : fitK twoL (KF twoL) [] [] = 0 := by simp [fitK]
    rw [e0]
    by_cases h2 : fitA twoL (KF twoL) x 1 = 0
    · by_cases h3 : fitA twoL (KF twoL) y 2 = 0
      · simp [h2, h3]
      · simp [h2, h3]
    · simp [h2]
  rw [e] at h
  exact h
theorem Calls.gen {P : Program} {k : Nat} {args : Array Value} {W : World} {post : Ending → World → Prop} (h : ∀ W', W' = W → Calls P k args W' post) : Calls P k args W post := h W rfl
def badT (i : Nat) : List Tr := [[], [.mk 5 ⟨#[]⟩ []], [.mk 0 ⟨#[120]⟩ []], [.mk 0 ⟨#[]⟩ [], .mk 0 ⟨#[]⟩ []]].getD i []
def wantE (i : Nat) : Int := [13, 14, 13, 13].getD i 0
theorem hr1 (t : Tr) : repT 0 [t].length = 0 := rfl
theorem bad_fit (i : Nat) (hi : i < 4) (j : Int) (hj : j = 1 ∨ j = 2) : fitA twoL (KF twoL) (badT i) j = wantE i := by
  have h1 : (flAt twoL j).rep = 0 := by rcases hj with rfl | rfl <;> rfl
  have h2 : (flAt twoL j).kind = 1 := by rcases hj with rfl | rfl <;> rfl
  have hx : (⟨#[120]⟩ : ByteArray).toList ≠ [] := by rw [ByteArray.toList_eq]; simp
  have hi' : i = 0 ∨ i = 1 ∨ i = 2 ∨ i = 3 := by omega
  rcases hi' with rfl | rfl | rfl | rfl
  · rw [fitA, h1]; rfl
  · rw [fitA, h1, show badT 1 = [.mk 5 ⟨#[]⟩ []] from rfl, fitX_one, fitT_eq, h2, hr1, if_neg (by decide), if_pos (by decide), leafT_eq]
    simp [repT, emptyS, wantE]
  · rw [fitA, h1, show badT 2 = [.mk 0 ⟨#[120]⟩ []] from rfl, fitX_one, fitT_eq, h2, hr1, if_neg (by decide), if_pos (by decide), leafT_eq]
    simp [repT, hx, wantE]
  · rw [fitA, h1]; rfl
theorem one_fit (j : Int) (hj : j = 1 ∨ j = 2) : fitA twoL (KF twoL) [.mk 1 ⟨#[]⟩ []] j = 0 := by
  have h1 : (flAt twoL j).rep = 0 := by rcases hj with rfl | rfl <;> rfl
  have h2 : (flAt twoL j).kind = 1 := by rcases hj with rfl | rfl <;> rfl
  rw [fitA, h1, fitX_one, fitT_eq, h2, hr1, if_neg (by decide), if_pos (by decide), leafT_eq]
  simp [repT, emptyS]
theorem bad_two (i k : Nat) (hi : i < 4) : (if fitA twoL (KF twoL) (badT i) 1 ≠ 0 then fitA twoL (KF twoL) (badT i) 1 else fitA twoL (KF twoL) (badT k) 2) = wantE i := by
  rw [bad_fit i hi 1 (.inl rfl)]
  have hi' : i = 0 ∨ i = 1 ∨ i = 2 ∨ i = 3 := by omega
  rcases hi' with rfl | rfl | rfl | rfl <;> rfl
theorem one_two (k : Nat) (hk : k < 4) : (if fitA twoL (KF twoL) [.mk 1 ⟨#[]⟩ []] 1 ≠ 0 then fitA twoL (KF twoL) [.mk 1 ⟨#[]⟩ []] 1 else fitA twoL (KF twoL) (badT k) 2) = wantE k := by
  rw [one_fit 1 (.inl rfl), bad_fit k hk 2 (.inr rfl)]; rfl
theorem bad_at (W : World) (b i : Nat) (hi : i < 4) (h0 : Rw W b #[.int .i64 5, .string ⟨#[]⟩, .slice none 0 0] 25) (h1 : Rw W (b + 1) #[.int .i64 0, .string ⟨#[120]⟩, .slice none 0 0] 25) (h2 : Rw W (b + 1 + 1) #[.int .i64 0, .string ⟨#[]⟩, .slice none 0 0, .int .i64 0, .string ⟨#[]⟩, .slice none 0 0] 25)
    (h3 : Rw W (b + 1 + 1 + 1) #[.slice none 0 0, .slice (some ⟨b, 0, none⟩) 1 1, .slice (some ⟨b + 1, 0, none⟩) 1 1, .slice (some ⟨b + 1 + 1, 0, none⟩) 2 2] 40) :
    ∃ a m, W.cell? ⟨b + 1 + 1 + 1, i, none⟩ = some (.slice a m m) ∧ ∀ W' r xr, Below W.heap.size W W' → KidAt W' r xr → KidAt W' (badT i :: r) (.slice a m m :: xr) := by
  have hi' : i = 0 ∨ i = 1 ∨ i = 2 ∨ i = 3 := by omega
  rcases hi' with rfl | rfl | rfl | rfl
  · exact ⟨_, 0, h3.cell 0, fun W' r xr hb hk => KidAt.no hk⟩
  · exact ⟨_, 1, h3.cell 1, fun W' r xr hb hk => KidAt.row 1 rfl (h0.below hb) rfl (by decide) (RowAt.one (TrAt.leaf' (by decide)) RowAt.end') hk⟩
  · exact ⟨_, 1, h3.cell 2, fun W' r xr hb hk => KidAt.row 1 rfl (h1.below hb) rfl (by decide) (RowAt.one (TrAt.leaf' (by decide)) RowAt.end') hk⟩
  · exact ⟨_, 2, h3.cell 3, fun W' r xr hb hk => KidAt.row 2 rfl (h2.below hb) rfl (by decide) (RowAt.one (TrAt.leaf' (by decide)) (RowAt.one (TrAt.leaf' (by decide)) RowAt.end')) hk⟩
set_option maxHeartbeats 4000000 in
theorem law_first (a b : Int) (w : World) (_ : (Lit.int .i64 a).wf = true) (_ : (Lit.int .i64 b).wf = true) :
    Calls Try.prog 6 #[.int .i64 a, .int .i64 b] w fun e w' => e = .returned (.bool true) ∧ Below w.heap.size w w' := by
  go_enter Try.func6, Try.ntmps6
  go_wp2_with fail
  refine (known8 _).mono ?_
  rintro e w1 ⟨rfl, hb1⟩
  have HB1 := Lib.hid hb1; clear hb1
  go_wp2_with fail
  refine Calls.gen (fun W hW => ?_)
  have q0 : Rw W w1.heap.size #[.int .i64 5, .string ⟨#[]⟩, .slice none 0 0] 25 := by rw [hW]; repeat (first | exact Rw.new _ _ _ | refine Rw.alloc ?_ _)
  have q1 : Rw W (w1.heap.size + 1) #[.int .i64 0, .string ⟨#[120]⟩, .slice none 0 0] 25 := by rw [hW]; repeat (first | (refine Rw.new' ?_; simp; done) | refine Rw.alloc ?_ _)
  have q2 : Rw W (w1.heap.size + 1 + 1) #[.int .i64 0, .string ⟨#[]⟩, .slice none 0 0, .int .i64 0, .string ⟨#[]⟩, .slice none 0 0] 25 := by rw [hW]; repeat (first | (refine Rw.new' ?_; simp; done) | refine Rw.alloc ?_ _)
  have q3 : Rw W (w1.heap.size + 1 + 1 + 1) #[.slice none 0 0, .slice (some ⟨w1.heap.size, 0, none⟩) 1 1, .slice (some ⟨w1.heap.size + 1, 0, none⟩) 1 1, .slice (some ⟨w1.heap.size + 1 + 1, 0, none⟩) 2 2] 40 := by rw [hW]; repeat (first | (refine Rw.new' ?_; simp; done) | refine Rw.alloc ?_ _)
  have q4 : Rw W (w1.heap.size + 1 + 1 + 1 + 1) #[.int .i64 13, .int .i64 14, .int .i64 13, .int .i64 13] 32 := by rw [hW]; repeat (first | (refine Rw.new' ?_; simp; done) | refine Rw.alloc ?_ _)
  have q5 : Rw W (w1.heap.size + 1 + 1 + 1 + 1 + 1) #[.string ⟨#[109]⟩, .int .i64 0, .int .i64 0, .int .i64 2, .string ⟨#[97]⟩, .int .i64 0, .int .i64 1, .int .i64 0, .string ⟨#[98]⟩, .int .i64 0, .int .i64 1, .int .i64 0] 39 := by rw [hW]; repeat (first | (refine Rw.new' ?_; simp; done) | refine Rw.alloc ?_ _)
  have hb2 : Below w.heap.size w W := by rw [hW]; repeat (first | exact HB1.out | refine ba ?_ _)
  clear hW
  generalize w1.heap.size = B at *
  have HB2 := Lib.hid hb2; clear hb2
  have HS := Lib.hid (Rw.sl q5 3 4 rfl (by decide))
  refine (within_8 a 4 W (by decide) (by decide)).mono ?_
  rintro e w2 ⟨rfl, rfl⟩
  have ra1 := Int.emod_nonneg a (show (4 : Int) ≠ 0 by decide)
  have ra2 := Int.emod_lt_of_pos a (show (0 : Int) < 4 by decide)
  obtain ⟨i, hi⟩ : ∃ i : Nat, a % 4 = (i : Int) := ⟨(a % 4).toNat, by omega⟩
  rw [hi] at ra1 ra2 ⊢
  go_wp2_with fail
  refine (within_8 b 4 W (by decide) (by decide)).mono ?_
  rintro e w2 ⟨rfl, rfl⟩
  have rb1 := Int.emod_nonneg b (show (4 : Int) ≠ 0 by decide)
  have rb2 := Int.emod_lt_of_pos b (show (0 : Int) < 4 by decide)
  obtain ⟨k, hk⟩ : ∃ k : Nat, b % 4 = (k : Int) := ⟨(b % 4).toNat, by omega⟩
  rw [hk] at rb1 rb2 ⊢
  have hi4 : i < 4 := by omega
  have hk4 : k < 4 := by omega
  obtain ⟨ai, mi, ci, ki⟩ := bad_at W B i hi4 q0 q1 q2 q3
  obtain ⟨ak, mk, ck, kk⟩ := bad_at W B k hk4 q0 q1 q2 q3
  have KI := Lib.hid ki; have KK := Lib.hid kk
  have ei : W.cell? ⟨B + 1 + 1 + 1 + 1, i, none⟩ = some (.int .i64 (wantE i)) := by
    have hi' : i = 0 ∨ i = 1 ∨ i = 2 ∨ i = 3 := by omega
    rcases hi' with rfl | rfl | rfl | rfl <;> rw [q4.cell] <;> rfl
  have ek : W.cell? ⟨B + 1 + 1 + 1 + 1, k, none⟩ = some (.int .i64 (wantE k)) := by
    have hi' : k = 0 ∨ k = 1 ∨ k = 2 ∨ k = 3 := by omega
    rcases hi' with rfl | rfl | rfl | rfl <;> rw [q4.cell] <;> rfl
  have EI := Lib.hid ei; have EK := Lib.hid ek; have CK := Lib.hid ck
  have HI := Lib.hid hi; have HK := Lib.hid hk
  clear hi hk ki kk q0 q1 q2 q3 q4 q5 ei ek
  go_wp2_with fail
  refine Go.Shr.wp_region_F (fun w' => w'.cell? ⟨B + 1 + 1 + 1, i, none⟩ = some (.slice ai mi mi) ∧ w'.cell? ⟨B + 1 + 1 + 1, k, none⟩ = some (.slice ak mk mk)) [12] (by kernel_rfl) ?g1rgS (fun hHeld => ?g1rgR)
  case g1rgS => (try dsimp only); (first | exact ⟨ci, ck⟩ | exact ⟨cb (ba (b0 _) _) hHeld.1, cb (ba (b0 _) _) hHeld.2⟩ | exact ⟨cb HB3.out ci, cb HB3.out ck⟩)
  try dsimp only at hHeld
  refine Go.Shr.wpAnyF_take 0 (oi := { dst := some 31, op := Go.Op.move (Go.Operand.tmp 7), type := 29, pos := "more.go:66", after := #[], guard := none }) (v := ?g1rv1) rfl (by kernel_rfl) (fun _ _ _ h => h) (by assumption) (by rfl) ?g1ry1 ?g1rr1
  case g1ry1 => intro w hSw; obtain ⟨g1, g2⟩ := hSw; go_simp; try with_reducible rfl
  try simp only [Act.put, List.setIfInBounds_toArray, List.set_cons_zero, List.set_cons_succ]
  refine Go.Shr.wpAnyF_take 1 (oi := { dst := some 32, op := Go.Op.move (Go.Operand.tmp 5), type := 23, pos := "more.go:66", after := #[], guard := none }) (v := ?g1rv2) rfl (by kernel_rfl) (fun _ _ _ h => h) (by assumption) (by rfl) ?g1ry2 ?g1rr2
  case g1ry2 => intro w hSw; obtain ⟨g1, g2⟩ := hSw; go_simp; try with_reducible rfl
  try simp only [Act.put, List.setIfInBounds_toArray, List.set_cons_zero, List.set_cons_succ]
  refine Go.Shr.wpAnyF_take 2 (oi := { dst := some 33, op := Go.Op.move (Go.Operand.tmp 8), type := 3, pos := "more.go:66", after := #[], guard := none }) (v := ?g1rv3) rfl (by kernel_rfl) (fun _ _ _ h => h) (by assumption) (by rfl) ?g1ry3 ?g1rr3
  case g1ry3 => intro w hSw; obtain ⟨g1, g2⟩ := hSw; go_simp; try with_reducible rfl
  try simp only [Act.put, List.setIfInBounds_toArray, List.set_cons_zero, List.set_cons_succ]
  refine Go.Shr.wpAnyF_take 3 (oi := { dst := some 34, op := Go.Op.indexAddr 23 (Go.Operand.tmp 32) (Go.Operand.tmp 33), type := 0, pos := "more.go:66", after := #[{ on := 1, ground := Go.Ground.data }, { on := 2, ground := Go.Ground.data }], guard := none }) (v := ?g1rv4) rfl (by kernel_rfl) (fun _ _ _ h => h) (by assumption) (by rfl) ?g1ry4 ?g1rr4
  case g1ry4 => intro w hSw; obtain ⟨g1, g2⟩ := hSw; go_simp; try with_reducible rfl
  try simp only [Act.put, List.setIfInBounds_toArray, List.set_cons_zero, List.set_cons_succ]
  refine Go.Shr.wpAnyF_take 4 (oi := { dst := some 35, op := Go.Op.load 40 (Go.Operand.tmp 34), type := 40, pos := "more.go:66", after := #[{ on := 3, ground := Go.Ground.data }], guard := none }) (v := ?g1rv5) rfl (by kernel_rfl) (fun _ _ _ h => h) (by assumption) (by rfl) ?g1ry5 ?g1rr5
  case g1ry5 => intro w hSw; obtain ⟨g1, g2⟩ := hSw; go_simp; try with_reducible rfl
  try simp only [Act.put, List.setIfInBounds_toArray, List.set_cons_zero, List.set_cons_succ]
  refine Go.Shr.wpAnyF_take 5 (oi := { dst := some 36, op := Go.Op.move (Go.Operand.tmp 5), type := 23, pos := "more.go:66", after := #[], guard := none }) (v := ?g1rv6) rfl (by kernel_rfl) (fun _ _ _ h => h) (by assumption) (by rfl) ?g1ry6 ?g1rr6
  case g1ry6 => intro w hSw; obtain ⟨g1, g2⟩ := hSw; go_simp; try with_reducible rfl
  try simp only [Act.put, List.setIfInBounds_toArray, List.set_cons_zero, List.set_cons_succ]
  refine Go.Shr.wpAnyF_take 6 (oi := { dst := some 37, op := Go.Op.move (Go.Operand.tmp 9), type := 3, pos := "more.go:66", after := #[], guard := none }) (v := ?g1rv7) rfl (by kernel_rfl) (fun _ _ _ h => h) (by assumption) (by rfl) ?g1ry7 ?g1rr7
  case g1ry7 => intro w hSw; obtain ⟨g1, g2⟩ := hSw; go_simp; try with_reducible rfl
  try simp only [Act.put, List.setIfInBounds_toArray, List.set_cons_zero, List.set_cons_succ]
  refine Go.Shr.wpAnyF_take 7 (oi := { dst := some 38, op := Go.Op.indexAddr 23 (Go.Operand.tmp 36) (Go.Operand.tmp 37), type := 0, pos := "more.go:66", after := #[{ on := 5, ground := Go.Ground.data }, { on := 6, ground := Go.Ground.data }], guard := none }) (v := ?g1rv8) rfl (by kernel_rfl) (fun _ _ _ h => h) (by assumption) (by rfl) ?g1ry8 ?g1rr8
  case g1ry8 => intro w hSw; obtain ⟨g1, g2⟩ := hSw; go_simp; try with_reducible rfl
  try simp only [Act.put, List.setIfInBounds_toArray, List.set_cons_zero, List.set_cons_succ]
  refine Go.Shr.wpAnyF_take 8 (oi := { dst := some 39, op := Go.Op.load 40 (Go.Operand.tmp 38), type := 40, pos := "more.go:66", after := #[{ on := 7, ground := Go.Ground.data }], guard := none }) (v := ?g1rv9) rfl (by kernel_rfl) (fun _ _ _ h => h) (by assumption) (by rfl) ?g1ry9 ?g1rr9
  case g1ry9 => intro w hSw; obtain ⟨g1, g2⟩ := hSw; go_simp; try with_reducible rfl
  try simp only [Act.put, List.setIfInBounds_toArray, List.set_cons_zero, List.set_cons_succ]
  refine Go.Shr.wpAnyF_ready [9] (by kernel_rfl) (by simp) ?_
  refine Go.Shr.AllReadyF.cons 9 (o := { dst := some 40, op := Go.Op.buildSlice 23 2 #[(0, Go.Operand.tmp 35), (1, Go.Operand.tmp 39)], type := 23, pos := "more.go:66", after := #[{ on := 4, ground := Go.Ground.data }, { on := 8, ground := Go.Ground.data }], guard := none }) rfl (fun K hK => ?g1ro10) ?g1rm10
  case g1rm10 => exact Go.Shr.AllReadyF.nil
  go_simp
  refine hK.out _ _ ?g1rs10 (fun hHeld => ?g1rt10)
  case g1rs10 => (try dsimp only); (first | exact ⟨ci, ck⟩ | exact ⟨cb (ba (b0 _) _) hHeld.1, cb (ba (b0 _) _) hHeld.2⟩ | exact ⟨cb HB3.out ci, cb HB3.out ck⟩)
  try dsimp only at hHeld
  clear hK K
  try simp only [Act.put, List.setIfInBounds_toArray, List.set_cons_zero, List.set_cons_succ]
  refine Go.Shr.wpAnyF_take 10 (oi := { dst := some 41, op := Go.Op.build 25 #[(2, Go.Operand.tmp 40)], type := 25, pos := "more.go:66", after := #[{ on := 9, ground := Go.Ground.data }], guard := none }) (v := ?g1rv11) rfl (by kernel_rfl) (fun _ _ _ h => h) (by assumption) (by rfl) ?g1ry11 ?g1rr11
  case g1ry11 => intro w hSw; obtain ⟨g1, g2⟩ := hSw; go_simp; try with_reducible rfl
  try simp only [Act.put, List.setIfInBounds_toArray, List.set_cons_zero, List.set_cons_succ]
  refine Go.Shr.wpAnyF_ready [11] (by kernel_rfl) (by simp) ?_
  refine Go.Shr.AllReadyF.cons 11 (o := { dst := some 42, op := Go.Op.call { callee := Go.Callee.value (Go.Operand.func 14), args := #[Go.Operand.tmp 31, Go.Operand.tmp 41], argTypes := #[29, 25] }, type := 32, pos := "more.go:66", after := #[{ on := 0, ground := Go.Ground.data }, { on := 10, ground := Go.Ground.data }], guard := none }) rfl (fun K hK => ?g1ro12) ?g1rm12
  case g1rm12 => exact Go.Shr.AllReadyF.nil
  go_simp; refine (fit3 (badT i) (badT k) _ (B + 1 + 1 + 1 + 1 + 1) _ (slb HS.out (ba (b0 W).drew _)) (TrAt.grp 2 (by decide) (b := W.heap.size) (cur := #[.slice ai mi mi, .slice ak mk mk]) (t := 40) (Rw.new' rfl) rfl (by decide) (KI.out _ _ _ (ba (b0 W).drew _) (KK.out _ _ _ (ba (b0 W).drew _) KidAt.end')))).mono ?_; rintro e w3 ⟨rfl, hb3⟩; rw [bad_two i k hi4]; have HB3 := Lib.hid (bt (ba (b0 W).drew _) hb3); clear hb3; dsimp only
  refine hK.out _ _ ?g1rs12 (fun hHeld => ?g1rt12)
  case g1rs12 => (try dsimp only); (first | exact ⟨ci, ck⟩ | exact ⟨cb (ba (b0 _) _) hHeld.1, cb (ba (b0 _) _) hHeld.2⟩ | exact ⟨cb HB3.out ci, cb HB3.out ck⟩)
  try dsimp only at hHeld
  clear hK K
  try simp only [Act.put, List.setIfInBounds_toArray, List.set_cons_zero, List.set_cons_succ]
  refine Go.Shr.wpAnyF_ready [12] (by kernel_rfl) (by simp) ?_
  refine Go.Shr.AllReadyF.last 12 (o := { dst := some 10, op := Go.Op.assign (Go.Operand.tmp 42), type := 32, pos := "more.go:66", after := #[{ on := 11, ground := Go.Ground.data }, { on := 11, ground := Go.Ground.chain }, { on := 0, ground := Go.Ground.phase }, { on := 1, ground := Go.Ground.phase }, { on := 2, ground := Go.Ground.phase }, { on := 3, ground := Go.Ground.phase }, { on := 4, ground := Go.Ground.phase }, { on := 5, ground := Go.Ground.phase }, { on := 6, ground := Go.Ground.phase }, { on := 7, ground := Go.Ground.phase }, { on := 8, ground := Go.Ground.phase }, { on := 9, ground := Go.Ground.phase }, { on := 10, ground := Go.Ground.phase }, { on := 11, ground := Go.Ground.phase }], guard := none }) rfl (by kernel_rfl) (fun K hK => ?g1ro13) ?g1rm13
  case g1rm13 => exact Go.Shr.AllReadyF.nil
  go_simp
  refine hK.out _ _ ?_
  clear hK K
  try simp only [Act.put, List.setIfInBounds_toArray, List.set_cons_zero, List.set_cons_succ]
  refine Go.Shr.wpAnyF_done (by kernel_rfl) ?_
  have ck3 := cb HB3.out ck
  have HBB3 := Lib.hid (bt HB2.out HB3.out)
  have hz3 : B + 1 + 1 + 1 < w3.heap.size := World.block_lt_of_cell? w3 _ ck3
  have hz4 : B + 1 + 1 + 1 ≠ w3.heap.size := by omega
  clear hHeld ci ck
  go_wp2_with fail
  refine (fit3 [.mk 1 ⟨#[]⟩ []] (badT k) _ (B + 1 + 1 + 1 + 1 + 1) _ (slb (slb HS.out HB3.out) (ba (ba (b0 w3) _) _)) (TrAt.grp 2 (by decide) (b := w3.heap.size + 1) (cur := #[.slice (some ⟨w3.heap.size, 0, none⟩) 1 1, .slice ak mk mk]) (t := 40) (Rw.new' (by simp)) rfl (by decide) (KidAt.row 1 rfl (cur := #[.int .i64 1, .string ⟨#[]⟩, .slice none 0 0]) (t := 25) ((Rw.new' rfl).alloc _) rfl (by decide) (RowAt.one (TrAt.leaf' (by decide)) RowAt.end') (KK.out _ _ _ (bt HB3.out (ba (ba (b0 w3) _) _)) KidAt.end')))).mono ?_
  rintro e w4 ⟨rfl, hb4⟩
  rw [one_two k hk4]
  have HB4 := Lib.hid (bt (ba (ba HBB3.out _) _) hb4)
  have e4i := cb (bt HB3.out (bt (ba (ba (b0 w3) _) _) hb4)) EI.out
  have e4k := cb (bt HB3.out (bt (ba (ba (b0 w3) _) _) hb4)) EK.out
  generalize wantE i = ei at *
  generalize wantE k = ek at *
  clear hb4 ck3 hz3 hz4
  go_wp2_with fail
  go_ret
  exact ⟨rfl, HB4.out⟩
end Go.Proofs.Ytdgcgkmejejccaa
