import Derived.Test.YtjbkjfefjhbolaakKnown16
import Derived.Test.YtjbkjfefjhbolaakWith16
set_option linter.unusedSimpArgs false
set_option linter.unusedVariables false
namespace Go.Proofs.Ytjbkjfefjhbolaa
open Go.RowKit Go.Shr
def vL (k : Int) : List Fl := [⟨⟨#[109]⟩, 0, 0, 1⟩, ⟨⟨#[97]⟩, 0, k, 0⟩]
def vSh (k : Int) : Sh := .mk ⟨#[109]⟩ 0 0 [.mk ⟨#[97]⟩ 0 k []]
theorem v_sch {k : Int} (h1 : 1 ≤ k) (h4 : k ≤ 4) : Sch (vL k) (vSh k) := by
 have hk : k = 1 ∨ k = 2 ∨ k = 3 ∨ k = 4 := by omega
 rcases hk with rfl | rfl | rfl | rfl <;> exact ⟨by simp [vL, vSh, flat, flatL], by simp [vSh, GoodS, GoodL], rfl, by simp [vSh, Sh.size, shSizes]⟩
theorem v_nms (k : Int) : Nms (vL k) := by
 refine ⟨fun f hf => ?_, ?_⟩
 ·simp only [vL, List.mem_cons, List.not_mem_nil, or_false] at hf
  rcases hf with rfl | rfl
  ·exact ⟨109, rfl, by decide, by decide⟩
  ·exact ⟨97, rfl, by decide, by decide⟩
 ·simp only [vL, List.map_cons, List.map_nil]
  decide
theorem v_wy {k : Int} (h1 : 1 ≤ k) (h4 : k ≤ 4) : Wy (vL k) (wayAt (vSh k)) := Wy.mk' (v_sch h1 h4) (by simp [vL]) (v_nms k)
theorem v_rep (k : Int) : ∀ x ∈ vL k, x.rep = 0 ∨ x.rep = 1 ∨ x.rep = 2 := by simp [vL]
theorem v_leafs {k : Int} (h1 : 1 ≤ k) : leafs (vL k) (vL k).length = [1] := by
 have : k ≠ 0 := by omega
 simp [leafs, vL, flN, List.range_succ, this]
theorem v_par (k : Int) : par (vL k) = [-1, 0] := by simp [par, vL, parF, parS, popS, nextS]
theorem v_KF (k : Int) : KF (vL k) 0 = [1] := by unfold KF; rw [v_par, kidsOf_two]; rfl
def vFine (k n : Int) (s : ByteArray) : Prop := leafT k (.mk n s []) = 0
theorem v_cell {k : Int} (h1 : 1 ≤ k) (t : Tr) : rowsC 1 (vSh k) [t] = (match t.kids with | x :: _ => (fldX (fun r' u => [⟨r', 0, some ⟨u.n, u.s⟩⟩]) 0 0 [⟨0, 0, none⟩] x) | [] => []) := by
 have : k ≠ 0 := by omega
 obtain ⟨n, s, ks⟩ := t
 cases ks with
 | nil => simp [rowsC, vSh, valC, Tr.kids, kidC]
 | cons x xs => simp [rowsC, vSh, valC, Tr.kids, kidC, this, noneC, Sh.size, shSizes, dmI, rmI, Sh.rep]
theorem v_fit {k : Int} (h1 : 1 ≤ k) (t : Tr) (h : fitT (vL k) (KF (vL k)) t 0 = 0) : ∃ u : Tr, t = .mk 0 ByteArray.empty [[u]] ∧ leafT k u = 0 := by
 have hk : k ≠ 0 := by omega
 rw [fitT_eq, v_KF, if_neg (by simp [flAt, vL])] at h
 by_cases hn : t.n ≠ 0 ∨ t.s.toList ≠ [] ∨ t.kids.length ≠ [(1 : Int)].length
 ·rw [if_pos hn] at h
  omega
 rw [if_neg hn] at h
 obtain ⟨n, s, ks⟩ := t
 have hn1 : n = 0 := Decidable.byContradiction (fun c => hn (.inl c))
 have hs : s = ByteArray.empty := by
  have h0 : s.toList = [] := Decidable.byContradiction (fun c => hn (.inr (.inl c)))
  have h1 : s.size = 0 := by rw [← str_len, h0]; rfl
  exact ByteArray.size_eq_zero_iff.1 h1
 have hl : ks.length = 1 := Decidable.byContradiction (fun c => hn (.inr (.inr c)))
 match ks, hl with
 | [x], _ =>
  have hK : fitK (vL k) (KF (vL k)) [x] [1] = 0 := h
  rw [fitK_cons, List.headD_cons] at hK
  have hA : fitA (vL k) (KF (vL k)) x 1 = 0 := Decidable.byContradiction (fun c => by rw [if_pos c] at hK; exact c hK)
  unfold fitA at hA
  have hR : repT (flAt (vL k) 1).rep x.length = 0 := Decidable.byContradiction (fun c => by rw [if_pos c] at hA; exact c hA)
  rw [if_neg (fun c => c hR)] at hA
  have hx : x.length = 1 := by
   refine Decidable.byContradiction (fun c => ?_)
   have h9 : repT 0 x.length = 0 := hR
   unfold repT at h9
   rw [if_pos (by omega)] at h9
   omega
  match x, hx with
  | [u], _ =>
   refine ⟨u, by rw [hn1, hs], ?_⟩
   unfold fitX at hA
   have hT : fitT (vL k) (KF (vL k)) u 1 = 0 := Decidable.byContradiction (fun c => by rw [if_pos c] at hA; exact c hA)
   rw [fitT_eq] at hT
   have e2 : (flAt (vL k) 1).kind = k := rfl
   rw [if_pos (by rw [e2]; exact hk), e2] at hT
   exact hT
theorem v_good {k : Int} (h1 : 1 ≤ k) {n : Int} {s : ByteArray} (hf : vFine k n s) : Good (vL k) (vSh k) [⟨[0], [0], [⟨n, s⟩]⟩] 1 [.mk 0 ByteArray.empty [[.mk n s []]]] := by
 have hk : k ≠ 0 := by omega
 have hfit : fitT (vL k) (KF (vL k)) (.mk 0 ByteArray.empty [[.mk n s []]]) 0 = 0 := by
  have he : ByteArray.empty.toList = [] := by rw [ByteArray.toList_eq]; rfl
  have e2 : (flAt (vL k) 1).kind = k := rfl
  have hT : fitT (vL k) (KF (vL k)) (.mk n s []) 1 = 0 := by
   rw [fitT_eq, if_pos (by rw [e2]; exact hk), e2]
   exact hf
  have hA : fitA (vL k) (KF (vL k)) [.mk n s []] 1 = 0 := by
   unfold fitA
   rw [if_neg (by simp [repT, flAt, vL])]
   unfold fitX
   rw [if_neg (fun c => c hT)]
   simp [fitX]
  have hK : fitK (vL k) (KF (vL k)) [[.mk n s []]] [1] = 0 := by
   rw [fitK_cons, List.headD_cons, if_neg (fun c => c hA)]
   simp [fitK]
  rw [fitT_eq, v_KF, if_neg (by simp [flAt, vL]), if_neg (by simp [Tr.n, Tr.s, Tr.kids, he])]
  exact hK
 have hr : rowsC 1 (vSh k) [.mk 0 ByteArray.empty [[.mk n s []]]] = [⟨0, 0, some ⟨n, s⟩⟩] := by rw [v_cell h1]; simp [Tr.kids, fldX, Tr.n, Tr.s]
 have hE : colsE (vL k) (vSh k) [.mk 0 ByteArray.empty [[.mk n s []]]] = 0 := by
  unfold colsE
  rw [if_neg (by simp)]
  simp only [List.map_cons, List.map_nil, hfit, firstE, if_true]
  rw [if_neg (by decide), if_neg]
  rw [v_leafs h1]
  simp [manyC, hr]
 refine ⟨hE, ?_, rfl⟩
 rw [colsL, if_pos hE]
 simp [clsC, v_leafs h1, clC, hr, celV]
theorem v_only {k : Int} (h1 : 1 ≤ k) {n : Int} {s : ByteArray} {x : List Tr} (h : Good (vL k) (vSh k) [⟨[0], [0], [⟨n, s⟩]⟩] 1 x) : vFine k n s := by
 have hx : x.length = 1 := by have := h.2.2; omega
 match x, hx with
 | [t], _ =>
  obtain ⟨u, rfl, hu⟩ := v_fit h1 t (h.fit t (by simp))
  have h2 := h.2.1
  rw [colsL, if_pos h.1] at h2
  have hr : rowsC 1 (vSh k) [.mk 0 ByteArray.empty [[u]]] = [⟨0, 0, some ⟨u.n, u.s⟩⟩] := by rw [v_cell h1]; simp [Tr.kids, fldX]
  simp [clsC, v_leafs h1, clC, hr, celV] at h2
  obtain ⟨rfl, rfl⟩ := h2
  obtain ⟨un, us, uk⟩ := u
  have : uk = [] := by
   refine Decidable.byContradiction (fun c => ?_)
   unfold leafT at hu
   rw [if_pos (.inl (by simp only [Tr.kids]; exact List.length_pos_iff.2 c))] at hu
   omega
  subst this
  exact hu
end Go.Proofs.Ytjbkjfefjhbolaa
namespace Go.Proofs.Ytjbkjfefjhbolaa
open Go.RowKit Go.Shr
theorem v_fine2 {n : Int} {s : ByteArray} (hs : s.toList = []) : (n == wrap64 (wrap32 n)) = true ↔ vFine 2 n s := by
 have h : vFine 2 n s ↔ ¬ (n < -2147483648 ∨ 2147483647 < n) := by
  unfold vFine leafT
  rw [if_neg (by simp [Tr.kids, Tr.s, hs]), if_neg (by decide), if_pos rfl]
  by_cases hc : (Tr.mk n s []).n < -2147483648 ∨ 2147483647 < (Tr.mk n s []).n
  ·rw [if_pos hc]
   exact ⟨fun h => absurd h (by decide), fun h => absurd hc h⟩
  ·rw [if_neg hc]
   exact ⟨fun _ => hc, fun _ => rfl⟩
 rw [h, beq_iff_eq]
 unfold wrap64 wrap32
 constructor <;> intro h <;> omega
set_option maxHeartbeats 1000000 in
set_option maxRecDepth 100000 in
theorem law_values (k0 n : Int) (s : ByteArray) (w : World) (hk0 : (Lit.int .i64 k0).wf = true) (hn0 : (Lit.int .i64 n).wf = true) (hs0 : s.size ≤ maxLen) :
  Calls Try.prog 9 #[.int .i64 k0, .int .i64 n, .string s] w fun e w' => e = .returned (.bool true) ∧ Below w.heap.size w w' := by
 have hsm := hs0
 unfold maxLen at hsm
 have HN := Lib.hid hn0
 clear hk0 hn0 hs0
 go_enter Try.func9, Try.ntmps9
 go_wp2_with fail
 refine (known16 _).mono ?_
 rintro e w1 ⟨rfl, hb1⟩
 have HB1 := Lib.hid hb1; clear hb1
 by_cases hss : 150 < s.size
 ·have hss' : (150 : Int) < (s.size : Int) := by omega
  go_wp2_with fail
  go_ret
  exact ⟨rfl, HB1.out⟩
 have hss' : ¬ (150 : Int) < (s.size : Int) := by omega
 go_wp2_with fail
 refine (within_16 k0 4 w1 (by decide) (by decide)).mono ?_
 rintro e w2 ⟨rfl, rfl⟩
 obtain ⟨k, hk⟩ : ∃ k : Int, k = 1 + k0 % 4 := ⟨_, rfl⟩
 have hk1 : 1 ≤ k := by have := Int.emod_nonneg k0 (show (4 : Int) ≠ 0 by decide); omega
 have hk4 : k ≤ 4 := by have := Int.emod_lt_of_pos k0 (show (0 : Int) < 4 by decide); omega
 have hwk : IntKind.i64.wrap (1 + k0 % 4) = k := by rw [IntKind.wrap_i64]; omega
 go_upto_region 6 with fail
 try rw [hwk]
 try rw [← hk]
 clear hk hwk
 go_wp2_with fail
 have r1 : Rw (w1.alloc (.cells #[.string ⟨#[109]⟩, .int .i64 0, .int .i64 0, .int .i64 1, .string ⟨#[97]⟩, .int .i64 0, .int .i64 k, .int .i64 0] 62)) (w1.heap.size) #[.string ⟨#[109]⟩, .int .i64 0, .int .i64 0, .int .i64 1, .string ⟨#[97]⟩, .int .i64 0, .int .i64 k, .int .i64 0] 62 := Rw.new w1 _ _
 have hb1 := ba (b0 w1) (.cells #[.string ⟨#[109]⟩, .int .i64 0, .int .i64 0, .int .i64 1, .string ⟨#[97]⟩, .int .i64 0, .int .i64 k, .int .i64 0] 62)
 have hz1 : (w1.alloc (.cells #[.string ⟨#[109]⟩, .int .i64 0, .int .i64 0, .int .i64 1, .string ⟨#[97]⟩, .int .i64 0, .int .i64 k, .int .i64 0] 62)).heap.size = w1.heap.size + 1 := by simp
 generalize w1.alloc (.cells #[.string ⟨#[109]⟩, .int .i64 0, .int .i64 0, .int .i64 1, .string ⟨#[97]⟩, .int .i64 0, .int .i64 k, .int .i64 0] 62) = w2 at r1 hb1 hz1 ⊢
 have r2 : Rw (w2.alloc (.cells #[.int .i64 0] 3)) (w1.heap.size + 1) #[.int .i64 0] 3 := Rw.new' hz1
 have hb2 := ba (b0 w2) (.cells #[.int .i64 0] 3)
 have hz2 : (w2.alloc (.cells #[.int .i64 0] 3)).heap.size = w1.heap.size + 1 + 1 := by simp [hz1]
 generalize w2.alloc (.cells #[.int .i64 0] 3) = w3 at r2 hb2 hz2 ⊢
 have r3 : Rw (w3.alloc (.cells #[.int .i64 0] 3)) (w1.heap.size + 1 + 1) #[.int .i64 0] 3 := Rw.new' hz2
 have hb3 := ba (b0 w3) (.cells #[.int .i64 0] 3)
 have hz3 : (w3.alloc (.cells #[.int .i64 0] 3)).heap.size = w1.heap.size + 1 + 1 + 1 := by simp [hz2]
 generalize w3.alloc (.cells #[.int .i64 0] 3) = w4 at r3 hb3 hz3 ⊢
 have r4 : Rw (w4.alloc (.cells #[.int .i64 n, .string s] 44)) (w1.heap.size + 1 + 1 + 1) #[.int .i64 n, .string s] 44 := Rw.new' hz3
 have hb4 := ba (b0 w4) (.cells #[.int .i64 n, .string s] 44)
 have hz4 : (w4.alloc (.cells #[.int .i64 n, .string s] 44)).heap.size = w1.heap.size + 1 + 1 + 1 + 1 := by simp [hz3]
 generalize w4.alloc (.cells #[.int .i64 n, .string s] 44) = w5 at r4 hb4 hz4 ⊢
 have r5 : Rw (w5.alloc (.cells #[.slice (some ⟨w1.heap.size + 1, 0, none⟩) 1 1, .slice (some ⟨w1.heap.size + 1 + 1, 0, none⟩) 1 1, .slice (some ⟨w1.heap.size + 1 + 1 + 1, 0, none⟩) 1 1] 42)) (w1.heap.size + 1 + 1 + 1 + 1) #[.slice (some ⟨w1.heap.size + 1, 0, none⟩) 1 1, .slice (some ⟨w1.heap.size + 1 + 1, 0, none⟩) 1 1, .slice (some ⟨w1.heap.size + 1 + 1 + 1, 0, none⟩) 1 1] 42 := Rw.new' hz4
 have hb5 := ba (b0 w5) (.cells #[.slice (some ⟨w1.heap.size + 1, 0, none⟩) 1 1, .slice (some ⟨w1.heap.size + 1 + 1, 0, none⟩) 1 1, .slice (some ⟨w1.heap.size + 1 + 1 + 1, 0, none⟩) 1 1] 42)
 have hz5 : (w5.alloc (.cells #[.slice (some ⟨w1.heap.size + 1, 0, none⟩) 1 1, .slice (some ⟨w1.heap.size + 1 + 1, 0, none⟩) 1 1, .slice (some ⟨w1.heap.size + 1 + 1 + 1, 0, none⟩) 1 1] 42)).heap.size = w1.heap.size + 1 + 1 + 1 + 1 + 1 := by simp [hz4]
 generalize w5.alloc (.cells #[.slice (some ⟨w1.heap.size + 1, 0, none⟩) 1 1, .slice (some ⟨w1.heap.size + 1 + 1, 0, none⟩) 1 1, .slice (some ⟨w1.heap.size + 1 + 1 + 1, 0, none⟩) 1 1] 42) = w6 at r5 hb5 hz5 ⊢
 have q2 := ((r2.below hb3).below hb4).below hb5
 have q3 := (r3.below hb4).below hb5
 have q4 := r4.below hb5
 have hcol : ColsR w6 (some ⟨w1.heap.size + 1 + 1 + 1 + 1, 0, none⟩) 1 1 [⟨[0], [0], [⟨n, s⟩]⟩] #[.slice (some ⟨w1.heap.size + 1, 0, none⟩) 1 1, .slice (some ⟨w1.heap.size + 1 + 1, 0, none⟩) 1 1, .slice (some ⟨w1.heap.size + 1 + 1 + 1, 0, none⟩) 1 1].toList :=
  ⟨Rw.sl r5 1 3 rfl (by decide), ⟨_, 1, _, 1, _, 1, [], rfl, ⟨Rw.sl q2 1 1 rfl (by decide), Rw.sl q3 1 1 rfl (by decide), Rw.sl q4 1 2 rfl (by decide)⟩, rfl⟩⟩
 have hsch := Rw.sl ((((r1.below hb2).below hb3).below hb4).below hb5) 2 4 rfl (by decide)
 have HB6 := Lib.hid (bt HB1.out (bt (bt (bt (bt hb1 hb2) hb3) hb4) hb5))
 clear hz1 hz2 hz3 hz4 hz5 hb1 hb2 hb3 hb4 hb5 r1 r2 r3 r4 r5 q2 q3 q4
 refine (records16_v (v_sch hk1 hk4) (v_wy hk1 hk4) (v_rep k) rfl (some ⟨w1.heap.size, 0, none⟩) (some ⟨w1.heap.size + 1 + 1 + 1 + 1, 0, none⟩) 2 1 1 [⟨[0], [0], [⟨n, s⟩]⟩] _ 1 w6 hsch hcol (by simp) (by simp [maxLen]; omega)).mono ?_
 clear hsch hcol
 rintro e w7 ⟨x, a, c, ys, er, rfl, hsl, hrow, hb7, _, hq⟩
 have hq' := hq (by rw [v_leafs hk1]; simp)
 clear hq
 have HB7 := Lib.hid (bt HB6.out hb7)
 have HQ : Hid ((er = 0 ∧ vFine k n s ∧ x = [.mk 0 ByteArray.empty [[.mk n s []]]]) ∨ (er = 10 ∧ ¬ vFine k n s ∧ x = [])) := Lib.hid (by
  rcases hq' with ⟨h1, h2, h3⟩ | ⟨h1, h2, h3⟩
  ·have hf := v_only hk1 h2
   exact .inl ⟨h1, hf, (h3 _ (v_good hk1 hf)).symm⟩
  ·exact .inr ⟨h1, fun hf => h3 _ (v_good hk1 hf), h2⟩)
 have HSL := Lib.hid hsl; have HROW := Lib.hid hrow
 clear hq' hsl hrow hb7 HB6
 go_upto_region 8 with fail
 go_cut [10] from 36 to 82 (fun v wc => (∃ B : Bool, v = .bool B ∧ (B = true ↔ vFine k n s)) ∧ w7 = wc)
 case first =>
  have hkk : k = 1 ∨ k = 2 ∨ k = 3 ∨ k = 4 := by omega
  clear HQ HSL HROW HB7 HB1 HN
  rcases hkk with rfl | rfl | rfl | rfl
  ·go_wp2_with fail
   all_goals (go_meet; case rel => exact ⟨⟨_, rfl, by first | (simp_all [vFine, leafT, Tr.kids, Tr.n, Tr.s]; done) | (simp_all [vFine, leafT, Tr.kids, Tr.n, Tr.s]; omega) | exact 0⟩, rfl⟩)
  ·go_wp2_with fail
   all_goals (go_meet; case rel => exact ⟨⟨_, rfl, by first | exact v_fine2 (by assumption) | (simp_all [vFine, leafT, Tr.kids, Tr.n, Tr.s]; done) | (simp_all [vFine, leafT, Tr.kids, Tr.n, Tr.s]; omega) | exact 0⟩, rfl⟩)
  ·go_wp2_with fail
   all_goals (go_meet; case rel => exact ⟨⟨_, rfl, by first | (simp_all [vFine, leafT, Tr.kids, Tr.n, Tr.s]; done) | (simp_all [vFine, leafT, Tr.kids, Tr.n, Tr.s]; omega) | exact 0⟩, rfl⟩)
  ·by_cases h0 : n = 0
   ·have hnb : ((n : Int) == 0) = true := by simp [h0]
    have H0 := Lib.hid h0
    clear h0
    by_cases hc : (s.size : Int) ≤ 100
    ·go_wp2_with fail
     go_meet
     case rel => exact ⟨⟨_, rfl, by have h := H0.out; clear hnb; subst h; simp [vFine, leafT, Tr.kids, Tr.n, Tr.s]; omega⟩, rfl⟩
    ·go_wp2_with fail
     go_meet
     case rel => exact ⟨⟨_, rfl, by have h := H0.out; clear hnb; subst h; simp [vFine, leafT, Tr.kids, Tr.n, Tr.s]; omega⟩, rfl⟩
   ·have hnb : ((n : Int) == 0) = false := beq_eq_false_iff_ne.2 h0
    go_wp2_with fail
    all_goals (go_meet; case rel => exact ⟨⟨_, rfl, by first | (simp_all [vFine, leafT, Tr.kids, Tr.n, Tr.s]; done) | exact 0⟩, rfl⟩)
 case rest =>
  obtain ⟨⟨B, rfl, hB⟩, rfl⟩ := hcut
  rcases HQ.out with ⟨rfl, hf, rfl⟩ | ⟨rfl, hf, rfl⟩
  ·obtain rfl := hB.2 hf
   clear HQ hB hf
   obtain ⟨ba, oa, rfl, _, hca⟩ := HSL.out.pos (by simp)
   have hr := HROW.out
   simp only [RowG] at hr
   obtain ⟨c0, c1, c2, yr, rfl, ht, _⟩ := hr
   simp only [TrG] at ht
   obtain ⟨a1, m1, cap1, xs1, h1, _, hs1, hk1'⟩ := ht
   simp at h1
   obtain ⟨rfl, rfl, rfl⟩ := h1
   simp only [KidG] at hk1'
   obtain ⟨a2, m2, cap2, ys2, xr2, rfl, rfl, hs2, hr2, hk2⟩ := hk1'
   simp only [RowG] at hr2
   obtain ⟨d0, d1, d2, yr2, rfl, ht2, _⟩ := hr2
   simp only [TrG] at ht2
   obtain ⟨a3, m3, cap3, xs3, h3, _, _, _⟩ := ht2
   simp at h3
   obtain ⟨rfl, rfl, rfl⟩ := h3
   have hm1 : m1 = 1 := by
    have := hs1.len
    obtain rfl : xr2 = [] := by simpa [KidG] using hk2
    simpa using this.symm
   subst hm1
   obtain ⟨b1, o1, rfl, _, hc1⟩ := hs1.pos (by decide)
   obtain ⟨b2, o2, rfl, _, hc2⟩ := hs2.pos (by simp)
   have g2 := hca 2 _ rfl
   have g1 := hc1 0 _ rfl
   have g0 := hc2 0 _ rfl
   have gs := hc2 1 _ rfl
   simp only [Nat.add_zero] at g1 g0
   clear hca hc1 hc2 HSL HROW hs1 hs2 hk2
   go_wp2_with fail
   go_ret
   exact ⟨rfl, HB7.out⟩
  ·obtain rfl : B = false := by
    cases B
    ·rfl
    ·exact absurd (hB.1 rfl) hf
   clear HQ hB hf HSL HROW
   go_wp2_with fail
   go_ret
   exact ⟨rfl, HB7.out⟩
end Go.Proofs.Ytjbkjfefjhbolaa
